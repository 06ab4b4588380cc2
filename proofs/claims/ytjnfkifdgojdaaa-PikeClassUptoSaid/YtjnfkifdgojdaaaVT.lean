/- The functions of this seat, as the evaluator has them (printed by wip/v/VG.lean). -/
import Derived.Test.YtjnfkifdgojdaaaChecked
import Derived.Test.YtjnfkifdgojdaaaV26
import Derived.Test.YtjnfkifdgojdaaaV35
namespace Go.Proofs.Ytjnfkifdgojdaaa.V
open Go
def q (t : Nat) (o : VOp) : VOper := ⟨some t, o, none, []⟩
def cf (f : FuncId) : Opd := .c (.func (.func f) [] [])
def ci (z : Int) : Opd := .c (.int .i64 z)
def J (t s : Nat) : VOper := ⟨some t, .mov (.t s), none, []⟩
def Y (t : Nat) (o : VOp) (g : Nat) : VOper := ⟨some t, o, some (g, true), []⟩
def Z (t s g : Nat) : VOper := ⟨some t, .mov (.t s), some (g, true), []⟩
def K (l : List VOper) (k : List Nat) : VCode := .reg false l k
def B (l : List VOper) (k : List Nat) : VCode := .reg true l k
def v (n : Nat) : Opd := .t n
set_option linter.unusedVariables false
set_option linter.unusedSimpArgs false
set_option linter.unusedSectionVars false
/- gosem.cut.init -/
/- caliper/caliperlaw11.PikeClass -/
def f3_l0 : VCode :=
 (.seq (.seq (K [(J 58 15),(J 59 5),(q 60 (.len (v 59))),(q 61 (.bin .lss (v 58) (v 60)))] [5, 8, 10, 12, 13, 14, 15, 61])
 (.cond (v 61) .skip (.exit 2)))
 (.seq (.block 3 (.reg true [(J 64 13),(J 65 64),⟨(some 66), .mov (v 8), (some (65, false)), []⟩,⟨(some 67), .mov (v 14), (some (65, false)), []⟩,⟨(some 68), .iaddr 1 (v 66) (v 67), (some (65, false)), []⟩,⟨(some 69), .load none (v 68), (some (65, false)), []⟩,⟨(some 70), .mov (v 5), (some (65, false)), []⟩,⟨(some 71), .mov (v 15), (some (65, false)), []⟩,⟨(some 72), .iaddr 2 (v 70) (v 71), (some (65, false)), []⟩,⟨(some 73), .faddr 0 (v 72), (some (65, false)), []⟩,⟨(some 74), .load none (v 73), (some (65, false)), []⟩,⟨(some 75), .bin .geq (v 69) (v 74), (some (65, false)), []⟩,⟨(some 76), .mov (v 75), (some (65, false)), []⟩,(Z 77 8 76),(Z 78 14 76),(Y 79 (.iaddr 1 (v 77) (v 78)) 76),(Y 80 (.load none (v 79)) 76),(Z 81 5 76),(Z 82 15 76),(Y 83 (.iaddr 2 (v 81) (v 82)) 76),(Y 84 (.faddr 1 (v 83)) 76),(Y 85 (.load none (v 84)) 76),(Y 86 (.bin .leq (v 80) (v 85)) 76),⟨(some 87), .pick (v 76) (v 86) (.c (.bool false)), (some (65, false)), []⟩,(q 88 (.pick (v 65) (.c (.bool true)) (v 87))),(J 13 88)] [5, 8, 10, 12, 13, 14, 15]))
 (.reg false [(J 62 15),(q 63 (.bin .add (v 62) (ci 1))),(J 15 63)] [5, 8, 10, 12, 13, 14, 15])))
def f3_l1 : VCode :=
 (.seq (.seq (K [(J 52 14),(J 53 8),(q 54 (.len (v 53))),(q 55 (.bin .lss (v 52) (v 54)))] [5, 8, 10, 12, 13, 14, 55])
 (.cond (v 55) .skip (.exit 0)))
 (.seq (.block 1 (.seq (K [(q 15 (.mov (ci 0)))] [5, 8, 10, 12, 13, 14, 15])
 (.block 2 (.loop [5, 8, 10, 12, 13, 14, 15] f3_l0))))
 (.reg false [(J 56 14),(q 57 (.bin .add (v 56) (ci 1))),(J 14 57)] [5, 8, 10, 12, 13, 14])))
def f3_c : VCode :=
 (.seq (K [(q 4 (.mov (.c (.bool false))))] [0, 1])
 (.seq (K [(J 16 0),(q 17 (.call (cf 7) [(v 16)])),(J 5 17)] [1, 5])
 (.seq (K [(J 19 5),(q 20 (.build [(.int .i64 0), (.sl 0 [] true), (.int .i64 0), (.int .i64 0), (.bool false), (.sl 0 [] true)] [(0, 1, (ci 2)), (1, 1, (v 19))])),(q 21 (.call (cf 8) [(v 20), (ci 10)])),(J 18 21),(q 22 (.extract (v 18) 0)),(q 23 (.extract (v 18) 1)),(J 6 22),(J 7 23)] [1, 5, 6, 7])
 (.seq (K [(J 25 1),(q 26 (.conv .strToBytes (v 25))),(q 27 (.call (cf 9) [(v 26)])),(J 24 27),(q 28 (.extract (v 24) 0)),(q 29 (.extract (v 24) 1)),(J 8 28),(J 9 29)] [1, 5, 6, 7, 8, 9])
 (.seq (K [(J 31 6),(J 32 1),(q 33 (.call (cf 10) [(v 31), (v 32)])),(J 30 33),(q 34 (.extract (v 30) 0)),(q 35 (.extract (v 30) 1)),(q 36 (.extract (v 30) 2)),(J 10 34),(J 11 35),(J 12 36)] [5, 7, 8, 9, 10, 12])
 (.seq (.seq (K [(J 37 7),(q 38 (.bin .neq (v 37) (ci 0))),(J 39 38),⟨(some 40), .mov (v 9), (some (39, false)), []⟩,⟨(some 41), .bin .neq (v 40) (ci 0), (some (39, false)), []⟩,(q 42 (.pick (v 39) (.c (.bool true)) (v 41)))] [5, 7, 8, 10, 12, 42])
 (.cond (v 42) (.seq (K [(J 43 7),(q 44 (.bin .eql (v 43) (ci 0))),(J 45 44),(Z 46 12 45),(Y 47 (.bin .eql (v 46) (ci 10)) 45),(q 48 (.pick (v 45) (v 47) (.c (.bool false)))),(J 49 48),(Y 50 (.call (cf 11) []) 49),(q 51 (.pick (v 49) (v 50) (.c (.bool false)))),(J 4 51)] [4])
 .ret) .skip))
 (.seq (K [(q 13 (.mov (.c (.bool false))))] [5, 8, 10, 12, 13])
 (.seq (.seq (K [(q 14 (.mov (ci 0)))] [5, 8, 10, 12, 13, 14])
 (.block 0 (.loop [5, 8, 10, 12, 13, 14] f3_l1)))
 (.seq (K [(J 89 12),(q 90 (.bin .eql (v 89) (ci 0))),(J 91 90),(Z 92 10 91),(Z 93 13 91),(Y 94 (.eqb false (v 92) (v 93)) 91),(q 95 (.pick (v 91) (v 94) (.c (.bool false)))),(J 96 95),(Y 97 (.call (cf 11) []) 96),(q 98 (.pick (v 96) (v 97) (.c (.bool false)))),(J 4 98)] [4])
 .ret)))))))))
def f3 : VFn := ⟨2, 99, f3_c, [.t 4], true, []⟩
/- caliper/caliperlaw11.PikeSteps -/
/- caliper/caliperlaw11.PikeWithin -/
/- caliper/caliperlaw11.PikeParts -/
/- caliper/rx.Merge -/
def f7_l0 : VCode :=
 (.seq (K [(q 13 (.bin .lss (v 12) (v 11)))] [3, 10, 11, 12, 13])
 (.seq (.cond (v 13) .skip (.exit 0))
 (.seq (.block 1 (.seq (K [(q 14 (.iaddr 2 (v 10) (v 12))),(q 15 (.load (some 2) (v 14))),(q 5 (.alloc true [(.int .i64 0), (.int .i64 0)])),⟨none, .store true 2 (v 5) (v 15), none, []⟩] [3, 5, 10, 11, 12])
 (.seq (K [(q 16 (.faddr 0 (v 5))),(q 17 (.load none (v 16))),(q 18 (.max [(v 17), (ci 0)])),(q 19 (.faddr 1 (v 5))),(q 20 (.load none (v 19))),(q 21 (.min [(v 20), (ci 1114111)])),(q 22 (.faddr 0 (v 5))),⟨none, .store false 1 (v 22) (v 18), none, []⟩,(q 23 (.faddr 1 (v 5))),⟨none, .store false 1 (v 23) (v 21), none, []⟩] [3, 5, 10, 11, 12])
 (.seq (K [(q 24 (.faddr 0 (v 5))),(q 25 (.load none (v 24))),(q 26 (.faddr 1 (v 5))),(q 27 (.load none (v 26))),(q 28 (.bin .leq (v 25) (v 27)))] [3, 5, 10, 11, 12, 28])
 (.cond (v 28) (.reg false [(J 29 3),(q 30 (.load (some 2) (v 5))),(q 31 (.buildRow true 2 1 [(.int .i64 0), (.int .i64 0)] [(0, (v 30))])),(q 32 (.append 2 16 (v 29) (v 31))),(J 3 32)] [3, 10, 11, 12]) .skip)))))
 (.reg false [(q 33 (.bin .add (v 12) (ci 1))),(J 12 33)] [3, 10, 11, 12]))))
def f7_l1 : VCode :=
 (.seq (K [(q 39 (.bin .lss (v 38) (v 37)))] [6, 36, 37, 38, 39])
 (.seq (.cond (v 39) .skip (.exit 2))
 (.seq (.block 3 (.seq (K [(q 40 (.iaddr 2 (v 36) (v 38))),(q 41 (.load (some 2) (v 40))),(q 8 (.alloc true [(.int .i64 0), (.int .i64 0)])),⟨none, .store true 2 (v 8) (v 41), none, []⟩] [6, 8, 36, 37, 38])
 (.seq (.seq (K [(J 42 6),(q 43 (.len (v 42))),(J 9 43)] [6, 8, 9, 36, 37, 38])
 (.seq (B [(J 44 9),(q 45 (.bin .gtr (v 44) (ci 0))),(J 46 45),(Y 47 (.faddr 0 (v 8)) 46),(Y 48 (.load none (v 47)) 46),(Z 49 6 46),(Z 50 9 46),(Y 51 (.bin .sub (v 50) (ci 1)) 46),(Y 52 (.iaddr 2 (v 49) (v 51)) 46),(Y 53 (.faddr 1 (v 52)) 46),(Y 54 (.load none (v 53)) 46),(Y 55 (.bin .add (v 54) (ci 1)) 46),(Y 56 (.bin .leq (v 48) (v 55)) 46),(q 57 (.pick (v 46) (v 56) (.c (.bool false))))] [6, 8, 9, 36, 37, 38, 57])
 (.cond (v 57) (.seq (B [(J 58 6),(J 59 9),(q 60 (.bin .sub (v 59) (ci 1))),(J 61 6),(J 62 9),(q 63 (.bin .sub (v 62) (ci 1))),(q 64 (.iaddr 2 (v 61) (v 63))),(q 65 (.faddr 1 (v 64))),(q 66 (.load none (v 65))),(q 67 (.faddr 1 (v 8))),(q 68 (.load none (v 67))),(q 69 (.max [(v 66), (v 68)])),(q 70 (.iaddr 2 (v 58) (v 60))),(q 71 (.faddr 1 (v 70))),⟨none, .store false 1 (v 71) (v 69), none, []⟩] [6, 36, 37, 38])
 (.exit 3)) .skip)))
 (.reg false [(J 72 6),(q 73 (.load (some 2) (v 8))),(q 74 (.buildRow true 2 1 [(.int .i64 0), (.int .i64 0)] [(0, (v 73))])),(q 75 (.append 2 16 (v 72) (v 74))),(J 6 75)] [6, 36, 37, 38]))))
 (.reg false [(q 76 (.bin .add (v 38) (ci 1))),(J 38 76)] [6, 36, 37, 38]))))
def f7_c : VCode :=
 (.seq (K [(q 2 (.nilrow 2))] [0])
 (.seq (K [(q 3 (.nilrow 2))] [0, 3])
 (.seq (.seq (K [(J 10 0),(q 11 (.len (v 10))),(q 12 (.mov (ci 0)))] [3, 10, 11, 12])
 (.block 0 (.loop [3, 10, 11, 12] f7_l0)))
 (.seq (K [(J 34 3),(q 35 (.call (cf 15) [(v 34), (cf 16)]))] [3])
 (.seq (K [(q 6 (.nilrow 2))] [3, 6])
 (.seq (.seq (K [(J 36 3),(q 37 (.len (v 36))),(q 38 (.mov (ci 0)))] [6, 36, 37, 38])
 (.block 2 (.loop [6, 36, 37, 38] f7_l1)))
 (.seq (K [(J 77 6),(J 2 77)] [2])
 .ret)))))))
def f7 : VFn := ⟨1, 78, f7_c, [.t 2], true, []⟩
/- caliper/nfa.Compile -/
def f8_c : VCode :=
 (.seq (K [(q 2 (.box true 6 (v 0))),(q 4 (.nilrow 4)),(q 5 (.mov (ci 0)))] [1, 2])
 (.seq (K [(q 10 (.load (some 6) (v 2))),(q 11 (.call (cf 12) [(v 10), (ci 65536)])),(J 9 11),(q 12 (.extract (v 9) 0)),(q 13 (.extract (v 9) 1)),(J 6 12),(J 7 13)] [1, 2, 6, 7])
 (.seq (.seq (K [(J 14 7),(q 15 (.bin .neq (v 14) (ci 0)))] [1, 2, 6, 7, 15])
 (.cond (v 15) (.seq (K [(J 16 7),(q 4 (.nilrow 4)),(J 5 16)] [4, 5])
 .ret) .skip))
 (.seq (.seq (K [(J 17 6),(J 18 1),(q 19 (.bin .gtr (v 17) (v 18))),(J 20 19),⟨(some 21), .mov (v 6), (some (20, false)), []⟩,⟨(some 22), .bin .gtr (v 21) (ci 65536), (some (20, false)), []⟩,(q 23 (.pick (v 20) (.c (.bool true)) (v 22)))] [2, 23])
 (.cond (v 23) (.seq (K [(q 4 (.nilrow 4)),(q 5 (.mov (ci 100)))] [4, 5])
 .ret) .skip))
 (.seq (.seq (K [(q 24 (.build [(.sl 0 [] true)] [])),(q 25 (.box true 1 (v 24))),(J 8 25)] [2, 8])
 (.virt 8 0 4))
 (.seq (K [(J 26 8),(q 27 (.load (some 6) (v 2))),(q 28 (.call (cf 18) [(v 26), (v 27)]))] [8])
 (.seq (B [(J 29 8),(q 30 (.nilck (v 29))),(q 31 (.faddr 0 (v 30))),(q 32 (.load none (v 31))),(J 33 8),(q 34 (.nilck (v 33))),(q 35 (.faddr 0 (v 34))),(q 36 (.load none (v 35))),(q 37 (.len (v 36))),(J 38 8),(q 39 (.nilck (v 38))),(q 40 (.faddr 0 (v 39))),(q 41 (.load none (v 40))),(q 42 (.len (v 41))),(q 43 (.sl 4 (v 32) none (some (v 37)) (some (v 42)))),(q 44 (.build [(.int .i64 0), (.sl 0 [] true), (.int .i64 0), (.int .i64 0)] [(0, 1, (ci 7))])),(q 45 (.buildRow true 4 1 [(.int .i64 0), (.sl 0 [] true), (.int .i64 0), (.int .i64 0)] [(0, (v 44))])),(q 46 (.append 4 48 (v 43) (v 45))),(J 4 46),(q 5 (.mov (ci 0)))] [4, 5])
 .ret)))))))
def f8 : VFn := ⟨2, 47, f8_c, [.t 4, .t 5], true, []⟩
/- caliper/caliperref01.Points -/
def f9_l0 : VCode :=
 (.seq (.seq (K [(J 18 7),(J 19 0),(q 20 (.len (v 19))),(q 21 (.bin .lss (v 18) (v 20)))] [0, 6, 7, 21])
 (.cond (v 21) .skip (.exit 0)))
 (.block 1 (.seq (K [(J 23 0),(J 24 7),(q 25 (.call (cf 20) [(v 23), (v 24)])),(J 22 25),(q 26 (.extract (v 22) 0)),(q 27 (.extract (v 22) 1)),(J 8 26),(J 9 27)] [0, 6, 7, 8])
 (.seq (K [(J 28 0),(J 29 7),(q 30 (.iaddr 1 (v 28) (v 29))),(q 31 (.load none (v 30))),(q 32 (.conv (.toInt .i64) (v 31))),(J 10 32)] [0, 6, 7, 8, 10])
 (.seq (.seq (K [(J 33 8)] [0, 6, 7, 8, 10, 33])
 (.block 2 (.seq (K [(q 35 (.bin .eql (v 33) (ci 2))),(J 34 35)] [0, 6, 7, 8, 10, 33, 34])
 (.cond (v 34) (.reg true [(J 36 0),(J 37 7),(q 38 (.iaddr 1 (v 36) (v 37))),(q 39 (.load none (v 38))),(q 40 (.conv (.toInt .i64) (v 39))),(q 41 (.bin .and (v 40) (ci 31))),(q 42 (.bin .shl (v 41) (.c (.int .u64 6)))),(J 43 0),(J 44 7),(q 45 (.bin .add (v 44) (ci 1))),(q 46 (.iaddr 1 (v 43) (v 45))),(q 47 (.load none (v 46))),(q 48 (.conv (.toInt .i64) (v 47))),(q 49 (.bin .and (v 48) (ci 63))),(q 50 (.bin .or (v 42) (v 49))),(J 10 50)] [0, 6, 7, 8, 10]) (.seq (K [(q 52 (.bin .eql (v 33) (ci 3))),(J 51 52)] [0, 6, 7, 8, 10, 33, 51])
 (.cond (v 51) (.reg true [(J 53 0),(J 54 7),(q 55 (.iaddr 1 (v 53) (v 54))),(q 56 (.load none (v 55))),(q 57 (.conv (.toInt .i64) (v 56))),(q 58 (.bin .and (v 57) (ci 15))),(q 59 (.bin .shl (v 58) (.c (.int .u64 12)))),(J 60 0),(J 61 7),(q 62 (.bin .add (v 61) (ci 1))),(q 63 (.iaddr 1 (v 60) (v 62))),(q 64 (.load none (v 63))),(q 65 (.conv (.toInt .i64) (v 64))),(q 66 (.bin .and (v 65) (ci 63))),(q 67 (.bin .shl (v 66) (.c (.int .u64 6)))),(q 68 (.bin .or (v 59) (v 67))),(J 69 0),(J 70 7),(q 71 (.bin .add (v 70) (ci 2))),(q 72 (.iaddr 1 (v 69) (v 71))),(q 73 (.load none (v 72))),(q 74 (.conv (.toInt .i64) (v 73))),(q 75 (.bin .and (v 74) (ci 63))),(q 76 (.bin .or (v 68) (v 75))),(J 10 76)] [0, 6, 7, 8, 10]) (.seq (K [(q 78 (.bin .eql (v 33) (ci 4))),(J 77 78)] [0, 6, 7, 8, 10, 77])
 (.cond (v 77) (.reg true [(J 79 0),(J 80 7),(q 81 (.iaddr 1 (v 79) (v 80))),(q 82 (.load none (v 81))),(q 83 (.conv (.toInt .i64) (v 82))),(q 84 (.bin .and (v 83) (ci 7))),(q 85 (.bin .shl (v 84) (.c (.int .u64 18)))),(J 86 0),(J 87 7),(q 88 (.bin .add (v 87) (ci 1))),(q 89 (.iaddr 1 (v 86) (v 88))),(q 90 (.load none (v 89))),(q 91 (.conv (.toInt .i64) (v 90))),(q 92 (.bin .and (v 91) (ci 63))),(q 93 (.bin .shl (v 92) (.c (.int .u64 12)))),(q 94 (.bin .or (v 85) (v 93))),(J 95 0),(J 96 7),(q 97 (.bin .add (v 96) (ci 2))),(q 98 (.iaddr 1 (v 95) (v 97))),(q 99 (.load none (v 98))),(q 100 (.conv (.toInt .i64) (v 99))),(q 101 (.bin .and (v 100) (ci 63))),(q 102 (.bin .shl (v 101) (.c (.int .u64 6)))),(q 103 (.bin .or (v 94) (v 102))),(J 104 0),(J 105 7),(q 106 (.bin .add (v 105) (ci 3))),(q 107 (.iaddr 1 (v 104) (v 106))),(q 108 (.load none (v 107))),(q 109 (.conv (.toInt .i64) (v 108))),(q 110 (.bin .and (v 109) (ci 63))),(q 111 (.bin .or (v 103) (v 110))),(J 10 111)] [0, 6, 7, 8, 10]) .skip))))))))
 (.seq (K [(J 112 6),(J 113 10),(q 114 (.buildRow false 1 1 [(.int .i64 0)] [(0, (v 113))])),(q 115 (.append 1 8 (v 112) (v 114))),(J 6 115)] [0, 6, 7, 8])
 (.reg false [(J 116 7),(J 117 8),(q 118 (.bin .add (v 116) (v 117))),(J 7 118)] [0, 6, 7])))))))
def f9_c : VCode :=
 (.seq (K [(q 2 (.nilrow 1)),(q 3 (.mov (ci 0)))] [0])
 (.seq (K [(J 12 0),(q 13 (.call (cf 19) [(v 12)])),(J 11 13),(q 14 (.extract (v 11) 0)),(q 15 (.extract (v 11) 1)),(J 4 14),(J 5 15)] [0, 5])
 (.seq (.seq (K [(J 16 5),(q 17 (.un .not (v 16)))] [0, 17])
 (.cond (v 17) (.seq (K [(q 2 (.nilrow 1)),(q 3 (.mov (ci 10)))] [2, 3])
 .ret) .skip))
 (.seq (K [(q 6 (.nilrow 1))] [0, 6])
 (.seq (.seq (K [(q 7 (.mov (ci 0)))] [0, 6, 7])
 (.block 0 (.loop [0, 6, 7] f9_l0)))
 (.seq (K [(J 119 6),(J 2 119),(q 3 (.mov (ci 0)))] [2, 3])
 .ret))))))
def f9 : VFn := ⟨1, 120, f9_c, [.t 2, .t 3], true, []⟩
/- caliper/pike.Search -/
def f10_c : VCode :=
 (.seq (K [(q 4 (.mov (.c (.bool false)))),(q 5 (.mov (ci 0))),(q 6 (.mov (ci 0)))] [0, 1])
 (.seq (K [(J 12 0),(J 13 1),(q 14 (.call (cf 21) [(v 12), (v 13)])),(J 11 14),(q 15 (.extract (v 11) 0)),(q 16 (.extract (v 11) 1)),(J 7 15),(J 8 16)] [7, 8])
 (.seq (.seq (K [(J 17 8),(q 18 (.bin .neq (v 17) (ci 0)))] [7, 8, 18])
 (.cond (v 18) (.seq (K [(J 19 8),(q 4 (.mov (.c (.bool false)))),(q 5 (.mov (ci 0))),(J 6 19)] [4, 5, 6])
 .ret) .skip))
 (.seq (K [(q 9 (.alloc false [(.bool false)])),(q 10 (.alloc false [(.int .i64 0)])),⟨none, .store false 1 (v 9) (.c (.bool false)), none, []⟩,⟨none, .store false 1 (v 10) (ci 0), none, []⟩] [7, 9, 10])
 (.seq (K [(J 20 7),(q 21 (.mkfunc (.func 23) [] [(v 10), (v 9)])),(q 22 (.call (cf 22) [(v 20), (.c (.bool true)), (v 21)]))] [9, 10])
 (.seq (B [(q 23 (.load none (v 9))),(q 24 (.load none (v 10))),(J 4 23),(J 5 24),(q 6 (.mov (ci 0)))] [4, 5, 6])
 .ret))))))
def f10 : VFn := ⟨2, 25, f10_c, [.t 4, .t 5, .t 6], true, []⟩
/- caliper/caliperlaw11.heads -/
def f11_c : VCode :=
 (.seq (K [(q 0 (.mov (.c (.bool false))))] [])
 (.seq (K [(q 21 (.call (cf 24) [(.c (.str ⟨#[97, 42]⟩))])),(J 20 21),(q 22 (.extract (v 20) 0)),(q 23 (.extract (v 20) 1)),(q 1 (.alloc true [(.int .i64 0), (.sl 0 [] true), (.int .i64 0), (.int .i64 0), (.bool false), (.sl 0 [] true)])),⟨none, .store true 6 (v 1) (v 22), none, []⟩,(J 2 23)] [1])
 (.seq (K [(q 25 (.load (some 6) (v 1))),(q 26 (.call (cf 8) [(v 25), (ci 100)])),(J 24 26),(q 27 (.extract (v 24) 0)),(q 28 (.extract (v 24) 1)),(J 3 27),(J 4 28)] [3, 4])
 (.seq (K [(q 30 (.call (cf 24) [(.c (.str ⟨#[97]⟩))])),(J 29 30),(q 31 (.extract (v 29) 0)),(q 32 (.extract (v 29) 1)),(q 5 (.alloc true [(.int .i64 0), (.sl 0 [] true), (.int .i64 0), (.int .i64 0), (.bool false), (.sl 0 [] true)])),⟨none, .store true 6 (v 5) (v 31), none, []⟩,(J 6 32)] [3, 4, 5])
 (.seq (K [(q 34 (.load (some 6) (v 5))),(q 35 (.call (cf 8) [(v 34), (ci 100)])),(J 33 35),(q 36 (.extract (v 33) 0)),(q 37 (.extract (v 33) 1)),(J 7 36),(J 8 37)] [3, 4, 7, 8])
 (.seq (K [(J 39 3),(q 40 (.call (cf 14) [(v 39), (.c (.str ⟨#[97, 97, 98]⟩))])),(J 38 40),(q 41 (.extract (v 38) 0)),(q 42 (.extract (v 38) 1)),(J 9 41),(J 10 42)] [4, 7, 8, 9, 10])
 (.seq (K [(J 44 7),(q 45 (.call (cf 10) [(v 44), (.c (.str ⟨#[98, 97]⟩))])),(J 43 45),(q 46 (.extract (v 43) 0)),(q 47 (.extract (v 43) 1)),(q 48 (.extract (v 43) 2)),(J 11 46),(J 12 47),(J 13 48)] [4, 7, 8, 9, 10, 11, 12, 13])
 (.seq (K [(q 50 (.call (cf 10) [(.c (.sl 0 [] true)), (.c (.str ⟨#[97]⟩))])),(J 49 50),(q 51 (.extract (v 49) 0)),(q 52 (.extract (v 49) 1)),(q 53 (.extract (v 49) 2)),(J 14 51),(J 15 52),(J 16 53)] [4, 7, 8, 9, 10, 11, 12, 13, 16])
 (.seq (K [(J 55 7),(q 56 (.call (cf 10) [(v 55), (.c (.str ⟨#[255]⟩))])),(J 54 56),(q 57 (.extract (v 54) 0)),(q 58 (.extract (v 54) 1)),(q 59 (.extract (v 54) 2)),(J 17 57),(J 18 58),(J 19 59)] [4, 8, 9, 10, 11, 12, 13, 16, 19])
 (.seq (K [(J 60 4),(q 61 (.bin .eql (v 60) (ci 0))),(J 62 61),(Z 63 8 62),(Y 64 (.bin .eql (v 63) (ci 0)) 62),(q 65 (.pick (v 62) (v 64) (.c (.bool false)))),(J 66 65),(Z 67 10 66),(Y 68 (.bin .eql (v 67) (ci 0)) 66),(q 69 (.pick (v 66) (v 68) (.c (.bool false)))),(J 70 69),(Z 71 9 70),(Y 72 (.buildRow false 1 3 [(.int .i64 0)] [(0, (ci 0)), (1, (ci 1)), (2, (ci 2))]) 70),(Y 73 (.call (cf 25) [(v 71), (v 72)]) 70),(q 74 (.pick (v 70) (v 73) (.c (.bool false)))),(J 75 74),(Z 76 11 75),(q 77 (.pick (v 75) (v 76) (.c (.bool false)))),(J 78 77),(Z 79 12 78),(Y 80 (.bin .eql (v 79) (ci 4)) 78),(q 81 (.pick (v 78) (v 80) (.c (.bool false)))),(J 82 81),(Z 83 13 82),(Y 84 (.bin .eql (v 83) (ci 0)) 82),(q 85 (.pick (v 82) (v 84) (.c (.bool false)))),(J 86 85),(Z 87 16 86),(Y 88 (.bin .eql (v 87) (ci 101)) 86),(q 89 (.pick (v 86) (v 88) (.c (.bool false)))),(J 90 89),(Z 91 19 90),(Y 92 (.bin .eql (v 91) (ci 10)) 90),(q 93 (.pick (v 90) (v 92) (.c (.bool false)))),(J 0 93)] [0])
 .ret))))))))))
def f11 : VFn := ⟨0, 94, f11_c, [.t 0], true, []⟩
/- caliper/nfa.Size -/
def f12_c : VCode :=
 (.seq (K [(q 2 (.box true 6 (v 0))),(q 4 (.mov (ci 0))),(q 5 (.mov (ci 0)))] [1, 2])
 (.seq (.seq (K [(q 7 (.load (some 6) (v 2))),(q 8 (.call (cf 26) [(v 7)])),(J 6 8)] [1, 2, 6])
 (.seq (K [(J 9 6),(q 10 (.bin .neq (v 9) (ci 0)))] [1, 2, 6, 10])
 (.cond (v 10) (.seq (K [(J 11 6),(q 4 (.mov (ci 0))),(J 5 11)] [4, 5])
 .ret) .skip)))
 (.seq (.seq (K [(J 12 1),(q 13 (.bin .lss (v 12) (ci 0)))] [1, 2, 13])
 (.cond (v 13) (.seq (K [(q 4 (.mov (ci 1))),(q 5 (.mov (ci 0)))] [4, 5])
 .ret) .skip))
 (.seq (K [(J 14 1),(q 15 (.min [(v 14), (ci 1099511627776)])),(J 1 15)] [1, 2])
 (.seq (K [(q 16 (.load (some 6) (v 2))),(J 17 1),(q 18 (.call (cf 27) [(v 16), (v 17)])),(q 19 (.bin .add (v 18) (ci 1))),(J 20 1),(q 21 (.bin .add (v 20) (ci 1))),(q 22 (.min [(v 19), (v 21)])),(J 4 22),(q 5 (.mov (ci 0)))] [4, 5])
 .ret)))))
def f12 : VFn := ⟨2, 23, f12_c, [.t 4, .t 5], true, []⟩
/- caliper/caliperref09.Levels -/
/- caliper/pike.Ends -/
def f14_c : VCode :=
 (.seq (K [(q 4 (.nilrow 1)),(q 5 (.mov (ci 0)))] [0, 1])
 (.seq (K [(J 10 0),(J 11 1),(q 12 (.call (cf 21) [(v 10), (v 11)])),(J 9 12),(q 13 (.extract (v 9) 0)),(q 14 (.extract (v 9) 1)),(J 6 13),(J 7 14)] [6, 7])
 (.seq (.seq (K [(J 15 7),(q 16 (.bin .neq (v 15) (ci 0)))] [6, 7, 16])
 (.cond (v 16) (.seq (K [(J 17 7),(q 4 (.nilrow 1)),(J 5 17)] [4, 5])
 .ret) .skip))
 (.seq (.seq (K [(q 8 (.alloc false [(.sl 0 [] true)]))] [6, 8])
 (.virt 8 0 1))
 (.seq (K [(J 18 6),(q 19 (.mkfunc (.func 28) [] [(v 8)])),(q 20 (.call (cf 22) [(v 18), (.c (.bool false)), (v 19)]))] [8])
 (.seq (K [(q 21 (.load none (v 8))),(J 4 21),(q 5 (.mov (ci 0)))] [4, 5])
 .ret))))))
def f14 : VFn := ⟨2, 22, f14_c, [.t 4, .t 5], true, []⟩
/- slices.SortFunc[[]caliper/api.Range,caliper/api.Range] -/
def f15_c : VCode :=
 (.seq (K [(J 5 0),(q 6 (.len (v 5))),(J 4 6)] [0, 1, 4])
 (.reg false [(J 7 0),(J 8 4),(J 9 4),(q 10 (.conv (.toInt .u64) (v 9))),(q 11 (.call (cf 30) [(v 10)])),(J 12 1),(q 13 (.call (cf 29) [(v 7), (ci 0), (v 8), (v 11), (v 12)]))] []))
def f15 : VFn := ⟨2, 14, f15_c, [], false, [0]⟩
/- caliper/rx.Merge$1 -/
def f16_c : VCode :=
 (.seq (K [(q 2 (.box true 2 (v 0))),(q 3 (.box true 2 (v 1))),(q 4 (.mov (ci 0)))] [2, 3])
 (.seq (K [(q 5 (.faddr 0 (v 2))),(q 6 (.load none (v 5))),(q 7 (.faddr 0 (v 3))),(q 8 (.load none (v 7))),(q 9 (.call (cf 17) [(v 6), (v 8)])),(J 4 9)] [4])
 .ret))
def f16 : VFn := ⟨2, 10, f16_c, [.t 4], true, []⟩
/- cmp.Compare[int] -/
def f17_c : VCode :=
 (.seq (K [(q 4 (.mov (ci 0)))] [0, 1])
 (.seq (K [(J 7 0),(q 8 (.call (cf 31) [(v 7)])),(J 5 8)] [0, 1, 5])
 (.seq (K [(J 9 1),(q 10 (.call (cf 31) [(v 9)])),(J 6 10)] [0, 1, 5, 6])
 (.seq (.seq (K [(J 11 5)] [0, 1, 6, 11])
 (.cond (v 11) (.seq (.seq (K [(J 12 6)] [12])
 (.cond (v 12) (.seq (K [(q 4 (.mov (ci 0)))] [4])
 .ret) .skip))
 (.seq (K [(q 4 (.mov (ci (-1))))] [4])
 .ret)) .skip))
 (.seq (.seq (K [(J 13 6)] [0, 1, 13])
 (.cond (v 13) (.seq (K [(q 4 (.mov (ci 1)))] [4])
 .ret) .skip))
 (.seq (.seq (K [(J 14 0),(J 15 1),(q 16 (.bin .lss (v 14) (v 15)))] [0, 1, 16])
 (.cond (v 16) (.seq (K [(q 4 (.mov (ci (-1))))] [4])
 .ret) .skip))
 (.seq (.seq (K [(J 17 0),(J 18 1),(q 19 (.bin .gtr (v 17) (v 18)))] [19])
 (.cond (v 19) (.seq (K [(q 4 (.mov (ci 1)))] [4])
 .ret) .skip))
 (.seq (K [(q 4 (.mov (ci 0)))] [4])
 .ret))))))))
def f17 : VFn := ⟨2, 20, f17_c, [.t 4], true, []⟩
/- (*caliper/nfa.builder).build -/
def f18_l0 : VCode :=
 (.seq (K [(q 48 (.bin .lss (v 47) (v 46)))] [0, 45, 46, 47, 48])
 (.seq (.cond (v 48) .skip (.exit 1))
 (.seq (.block 2 (.seq (K [(q 49 (.iaddr 6 (v 45) (v 47))),(q 50 (.load (some 6) (v 49))),(q 5 (.alloc true [(.int .i64 0), (.sl 0 [] true), (.int .i64 0), (.int .i64 0), (.bool false), (.sl 0 [] true)])),⟨none, .store true 6 (v 5) (v 50), none, []⟩] [0, 5, 45, 46, 47])
 (.reg false [(J 51 0),(q 52 (.load (some 6) (v 5))),(q 53 (.call (cf 18) [(v 51), (v 52)]))] [0, 45, 46, 47])))
 (.reg false [(q 54 (.bin .add (v 47) (ci 1))),(J 47 54)] [0, 45, 46, 47]))))
def f18_l1 : VCode :=
 (.seq (K [(q 61 (.bin .lss (v 60) (v 59)))] [0, 3, 6, 58, 59, 60, 61])
 (.seq (.cond (v 61) .skip (.exit 3))
 (.seq (.block 4 (.seq (K [(J 62 60),(q 63 (.iaddr 6 (v 58) (v 60))),(q 64 (.load (some 6) (v 63))),(q 8 (.alloc true [(.int .i64 0), (.sl 0 [] true), (.int .i64 0), (.int .i64 0), (.bool false), (.sl 0 [] true)])),(J 7 62),⟨none, .store true 6 (v 8) (v 64), none, []⟩] [0, 3, 6, 7, 8, 58, 59, 60])
 (.seq (.seq (K [(J 65 7),(q 66 (.faddr 5 (v 3))),(q 67 (.load none (v 66))),(q 68 (.len (v 67))),(q 69 (.bin .sub (v 68) (ci 1))),(q 70 (.bin .eql (v 65) (v 69)))] [0, 3, 6, 8, 58, 59, 60, 70])
 (.cond (v 70) (.seq (K [(J 71 0),(q 72 (.load (some 6) (v 8))),(q 73 (.call (cf 18) [(v 71), (v 72)]))] [0, 6])
 (.exit 3)) .skip))
 (.seq (K [(J 74 0),(q 75 (.call (cf 34) [(v 74)])),(J 9 75)] [0, 3, 6, 8, 9, 58, 59, 60])
 (.seq (K [(J 76 0),(q 77 (.load (some 6) (v 8))),(q 78 (.call (cf 18) [(v 76), (v 77)]))] [0, 3, 6, 9, 58, 59, 60])
 (.seq (K [(J 79 6),(J 80 0),(q 81 (.call (cf 35) [(v 80)])),(q 82 (.buildRow false 1 1 [.nilf] [(0, (v 81))])),(q 83 (.append 1 8 (v 79) (v 82))),(J 6 83)] [0, 3, 6, 9, 58, 59, 60])
 (.reg false [(J 84 9),(q 85 (.call (v 84) []))] [0, 3, 6, 58, 59, 60])))))))
 (.reg false [(q 86 (.bin .add (v 60) (ci 1))),(J 60 86)] [0, 3, 6, 58, 59, 60]))))
def f18_l2 : VCode :=
 (.seq (K [(q 90 (.bin .lss (v 89) (v 88)))] [0, 87, 88, 89, 90])
 (.seq (.cond (v 90) .skip (.exit 5))
 (.seq (.block 6 (.seq (K [(q 91 (.iaddr 1 (v 87) (v 89))),(q 92 (.load none (v 91))),(J 11 92)] [0, 11, 87, 88, 89])
 (.reg false [(J 93 11),(J 94 0),(q 95 (.nilck (v 94))),(q 96 (.faddr 0 (v 95))),(q 97 (.load none (v 96))),(q 98 (.len (v 97))),(q 99 (.call (v 93) [(v 98)]))] [0, 87, 88, 89])))
 (.reg false [(q 100 (.bin .add (v 89) (ci 1))),(J 89 100)] [0, 87, 88, 89]))))
def f18_c : VCode :=
 (.seq (K [(q 3 (.box true 6 (v 1)))] [0, 3])
 (.seq (K [(q 12 (.faddr 0 (v 3))),(q 13 (.load none (v 12)))] [0, 3, 13])
 (.block 0 (.seq (K [(q 15 (.bin .eql (v 13) (ci 2))),(J 14 15)] [0, 3, 13, 14])
 (.cond (v 14) (.reg false [(J 16 0),(q 17 (.faddr 1 (v 3))),(q 18 (.load none (v 17))),(q 19 (.call (cf 33) [(v 18)])),(q 20 (.build [(.int .i64 0), (.sl 0 [] true), (.int .i64 0), (.int .i64 0)] [(0, 1, (ci 1)), (1, 1, (v 19))])),(q 21 (.call (cf 32) [(v 16), (v 20)]))] []) (.seq (K [(q 23 (.bin .eql (v 13) (ci 6))),(J 22 23)] [0, 3, 13, 22])
 (.cond (v 22) (.reg false [(J 24 0),(q 25 (.build [(.int .i64 0), (.sl 0 [] true), (.int .i64 0), (.int .i64 0)] [(0, 1, (ci 3))])),(q 26 (.call (cf 32) [(v 24), (v 25)]))] []) (.seq (K [(q 28 (.bin .eql (v 13) (ci 7))),(J 27 28)] [0, 3, 13, 27])
 (.cond (v 27) (.reg false [(J 29 0),(q 30 (.build [(.int .i64 0), (.sl 0 [] true), (.int .i64 0), (.int .i64 0)] [(0, 1, (ci 4))])),(q 31 (.call (cf 32) [(v 29), (v 30)]))] []) (.seq (K [(q 33 (.bin .eql (v 13) (ci 8))),(J 32 33)] [0, 3, 13, 32])
 (.cond (v 32) (.reg false [(J 34 0),(q 35 (.build [(.int .i64 0), (.sl 0 [] true), (.int .i64 0), (.int .i64 0)] [(0, 1, (ci 5))])),(q 36 (.call (cf 32) [(v 34), (v 35)]))] []) (.seq (K [(q 38 (.bin .eql (v 13) (ci 9))),(J 37 38)] [0, 3, 13, 37])
 (.cond (v 37) (.reg false [(J 39 0),(q 40 (.build [(.int .i64 0), (.sl 0 [] true), (.int .i64 0), (.int .i64 0)] [(0, 1, (ci 6))])),(q 41 (.call (cf 32) [(v 39), (v 40)]))] []) (.seq (K [(q 43 (.bin .eql (v 13) (ci 3))),(J 42 43)] [0, 3, 13, 42])
 (.cond (v 42) (.seq (K [(q 44 (.faddr 5 (v 3))),(q 45 (.load none (v 44))),(q 46 (.len (v 45))),(q 47 (.mov (ci 0)))] [0, 45, 46, 47])
 (.block 1 (.loop [0, 45, 46, 47] f18_l0))) (.seq (K [(q 56 (.bin .eql (v 13) (ci 4))),(J 55 56)] [0, 3, 13, 55])
 (.cond (v 55) (.seq (K [(q 6 (.nilrow 1))] [0, 3, 6])
 (.seq (.seq (K [(q 57 (.faddr 5 (v 3))),(q 58 (.load none (v 57))),(q 59 (.len (v 58))),(q 60 (.mov (ci 0)))] [0, 3, 6, 58, 59, 60])
 (.block 3 (.loop [0, 3, 6, 58, 59, 60] f18_l1)))
 (.seq (K [(J 87 6),(q 88 (.len (v 87))),(q 89 (.mov (ci 0)))] [0, 87, 88, 89])
 (.block 5 (.loop [0, 87, 88, 89] f18_l2))))) (.seq (K [(q 102 (.bin .eql (v 13) (ci 5))),(J 101 102)] [0, 3, 101])
 (.cond (v 101) (.reg false [(J 103 0),(q 104 (.load (some 6) (v 3))),(q 105 (.call (cf 36) [(v 103), (v 104)]))] []) .skip)))))))))))))))))))
def f18 : VFn := ⟨2, 106, f18_c, [], true, []⟩
/- caliper/caliperref01.Good -/
def f19_l0 : VCode :=
 (.seq (.seq (K [(J 7 4),(J 8 0),(q 9 (.len (v 8))),(q 10 (.bin .lss (v 7) (v 9)))] [0, 4, 10])
 (.cond (v 10) .skip (.exit 0)))
 (.block 1 (.seq (K [(J 12 0),(J 13 4),(q 14 (.call (cf 20) [(v 12), (v 13)])),(J 11 14),(q 15 (.extract (v 11) 0)),(q 16 (.extract (v 11) 1)),(J 5 15),(J 6 16)] [0, 4, 5, 6])
 (.seq (K [(J 17 4),(J 18 5),(q 19 (.bin .add (v 17) (v 18))),(J 4 19)] [0, 4, 6])
 (.seq (K [(J 20 6),(q 21 (.un .not (v 20)))] [0, 4, 21])
 (.cond (v 21) (.seq (K [(J 22 4),(J 2 22),(q 3 (.mov (.c (.bool false))))] [2, 3])
 .ret) .skip))))))
def f19_c : VCode :=
 (.seq (K [(q 2 (.mov (ci 0))),(q 3 (.mov (.c (.bool false))))] [0])
 (.seq (K [(q 4 (.mov (ci 0)))] [0, 4])
 (.seq (.block 0 (.loop [0, 4] f19_l0))
 (.seq (K [(J 23 4),(J 2 23),(q 3 (.mov (.c (.bool true))))] [2, 3])
 .ret))))
def f19 : VFn := ⟨1, 24, f19_c, [.t 2, .t 3], true, []⟩
/- caliper/caliperref01.step -/
def f20_l0 : VCode :=
 (.seq (.seq (K [(J 16 7),(J 17 6),(q 18 (.bin .lss (v 16) (v 17)))] [0, 1, 6, 7, 18])
 (.cond (v 18) .skip (.exit 0)))
 (.seq (.block 1 (.seq (.seq (K [(J 21 1),(J 22 7),(q 23 (.bin .add (v 21) (v 22))),(J 24 0),(q 25 (.len (v 24))),(q 26 (.bin .eql (v 23) (v 25)))] [0, 1, 6, 7, 26])
 (.cond (v 26) (.seq (K [(J 27 7),(J 4 27),(q 5 (.mov (.c (.bool false))))] [4, 5])
 .ret) .skip))
 (.seq (K [(J 28 0),(J 29 1),(J 30 7),(q 31 (.bin .add (v 29) (v 30))),(q 32 (.iaddr 1 (v 28) (v 31))),(q 33 (.load none (v 32))),(J 8 33)] [0, 1, 6, 7, 8])
 (.seq (K [(J 34 7),(q 35 (.bin .eql (v 34) (ci 1))),(J 36 35),(Z 37 0 36),(Z 38 1 36),(Y 39 (.iaddr 1 (v 37) (v 38)) 36),(Y 40 (.load none (v 39)) 36),(Z 41 8 36),(Y 42 (.call (cf 38) [(v 40), (v 41)]) 36),(Y 43 (.un .not (v 42)) 36),(q 44 (.pick (v 36) (v 43) (.c (.bool false)))),(J 45 44),⟨(some 46), .mov (v 7), (some (45, false)), []⟩,⟨(some 47), .bin .gtr (v 46) (ci 1), (some (45, false)), []⟩,⟨(some 48), .mov (v 47), (some (45, false)), []⟩,(Z 49 8 48),(Y 50 (.bin .lss (v 49) (.c (.int .u8 128))) 48),(Z 51 50 48),⟨(some 52), .mov (v 8), (some (51, false)), []⟩,⟨(some 53), .bin .gtr (v 52) (.c (.int .u8 191)), (some (51, false)), []⟩,(Y 54 (.pick (v 51) (.c (.bool true)) (v 53)) 48),⟨(some 55), .pick (v 48) (v 54) (.c (.bool false)), (some (45, false)), []⟩,(q 56 (.pick (v 45) (.c (.bool true)) (v 55)))] [0, 1, 6, 7, 56])
 (.cond (v 56) (.seq (K [(J 57 7),(J 4 57),(q 5 (.mov (.c (.bool false))))] [4, 5])
 .ret) .skip)))))
 (.reg false [(J 19 7),(q 20 (.bin .add (v 19) (ci 1))),(J 7 20)] [0, 1, 6, 7])))
def f20_c : VCode :=
 (.seq (K [(q 4 (.mov (ci 0))),(q 5 (.mov (.c (.bool false))))] [0, 1])
 (.seq (K [(J 9 0),(J 10 1),(q 11 (.iaddr 1 (v 9) (v 10))),(q 12 (.load none (v 11))),(q 13 (.call (cf 37) [(v 12)])),(J 6 13)] [0, 1, 6])
 (.seq (.seq (K [(J 14 6),(q 15 (.bin .eql (v 14) (ci 0)))] [0, 1, 6, 15])
 (.cond (v 15) (.seq (K [(q 4 (.mov (ci 0))),(q 5 (.mov (.c (.bool false))))] [4, 5])
 .ret) .skip))
 (.seq (.seq (K [(q 7 (.mov (ci 1)))] [0, 1, 6, 7])
 (.block 0 (.loop [0, 1, 6, 7] f20_l0)))
 (.seq (K [(J 58 6),(J 4 58),(q 5 (.mov (.c (.bool true))))] [4, 5])
 .ret)))))
def f20 : VFn := ⟨2, 59, f20_c, [.t 4, .t 5], true, []⟩
/- caliper/pike.begin -/
def f21_c : VCode :=
 (.seq (K [(q 4 (.mov (.c .nilp))),(q 5 (.mov (ci 0)))] [0, 1])
 (.seq (.seq (K [(J 9 0),(q 10 (.call (cf 39) [(v 9)])),(J 6 10)] [0, 1, 6])
 (.seq (K [(J 11 6),(q 12 (.bin .neq (v 11) (ci 0)))] [0, 1, 6, 12])
 (.cond (v 12) (.seq (K [(J 13 6),(q 4 (.mov (.c .nilp))),(J 5 13)] [4, 5])
 .ret) .skip)))
 (.seq (K [(J 15 1),(q 16 (.conv .strToBytes (v 15))),(q 17 (.call (cf 40) [(v 16)])),(J 14 17),(q 18 (.extract (v 14) 0)),(q 19 (.extract (v 14) 1)),(J 7 18),(J 8 19)] [0, 7, 8])
 (.seq (K [(J 20 0),(J 21 7),(q 22 (.build [(.sl 0 [] true), (.sl 0 [] true)] [(0, 1, (v 20)), (1, 1, (v 21))])),(q 23 (.box true 2 (v 22))),(J 24 8),(J 4 23),(J 5 24)] [4, 5])
 .ret))))
def f21 : VFn := ⟨2, 25, f21_c, [.t 4, .t 5], true, []⟩
/- (*caliper/pike.run).over -/
def f22_l0 : VCode :=
 (.seq (.seq (K [(J 11 7),(J 12 0),(q 13 (.nilck (v 12))),(q 14 (.faddr 1 (v 13))),(q 15 (.load none (v 14))),(q 16 (.len (v 15))),(q 17 (.bin .leq (v 11) (v 16)))] [0, 1, 2, 6, 7, 17])
 (.cond (v 17) .skip (.exit 0)))
 (.seq (.block 1 (.seq (K [(J 21 0),(J 22 6),(J 23 7),(q 24 (.call (cf 41) [(v 21), (v 22), (v 23)])),(J 20 24),(q 25 (.extract (v 20) 0)),(q 26 (.extract (v 20) 1)),(J 8 25),(J 9 26)] [0, 1, 2, 7, 8, 9])
 (.seq (.seq (K [(J 27 2),(J 28 7),(J 29 8),(q 30 (.len (v 29))),(J 31 9),(q 32 (.call (v 27) [(v 28), (v 30), (v 31)])),(q 33 (.un .not (v 32))),(J 34 33),⟨(some 35), .mov (v 7), (some (34, false)), []⟩,⟨(some 36), .mov (v 0), (some (34, false)), []⟩,⟨(some 37), .nilck (v 36), (some (34, false)), []⟩,⟨(some 38), .faddr 1 (v 37), (some (34, false)), []⟩,⟨(some 39), .load none (v 38), (some (34, false)), []⟩,⟨(some 40), .len (v 39), (some (34, false)), []⟩,⟨(some 41), .bin .eql (v 35) (v 40), (some (34, false)), []⟩,(q 42 (.pick (v 34) (.c (.bool true)) (v 41)))] [0, 1, 2, 7, 8, 42])
 (.cond (v 42) .ret .skip))
 (.seq (K [(J 43 0),(J 44 8),(J 45 0),(q 46 (.nilck (v 45))),(q 47 (.faddr 1 (v 46))),(q 48 (.load none (v 47))),(J 49 7),(q 50 (.iaddr 1 (v 48) (v 49))),(q 51 (.load none (v 50))),(q 52 (.call (cf 42) [(v 43), (v 44), (v 51)])),(J 6 52)] [0, 1, 2, 6, 7])
 (.seq (K [(J 53 1)] [0, 1, 2, 6, 7, 53])
 (.cond (v 53) (.reg false [(J 54 6),(q 55 (.buildRow false 1 1 [(.int .i64 0)] [(0, (ci 0))])),(q 56 (.append 1 8 (v 54) (v 55))),(J 6 56)] [0, 1, 2, 6, 7]) .skip))))))
 (.reg false [(J 18 7),(q 19 (.bin .add (v 18) (ci 1))),(J 7 19)] [0, 1, 2, 6, 7])))
def f22_c : VCode :=
 (.seq (K [(q 10 (.buildRow false 1 1 [(.int .i64 0)] [(0, (ci 0))])),(J 6 10)] [0, 1, 2, 6])
 (.seq (K [(q 7 (.mov (ci 0)))] [0, 1, 2, 6, 7])
 (.block 0 (.loop [0, 1, 2, 6, 7] f22_l0))))
def f22 : VFn := ⟨3, 57, f22_c, [], true, []⟩
/- caliper/pike.Search$1 -/
def f23_c : VCode :=
 (.seq (K [(q 8 (.mov (.c (.bool false))))] [1, 2, 3, 4])
 (.seq (K [(q 9 (.load none (v 3))),(J 10 1),(q 11 (.bin .add (v 9) (v 10))),⟨none, .store false 1 (v 3) (v 11), none, []⟩] [2, 4])
 (.seq (K [(J 12 2),⟨none, .store false 1 (v 4) (v 12), none, []⟩] [2])
 (.seq (K [(J 13 2),(q 14 (.un .not (v 13))),(J 8 14)] [8])
 .ret))))
def f23 : VFn := ⟨5, 15, f23_c, [.t 8], true, []⟩
/- caliper/rx.Parse -/
def d24 : VDef := ⟨[(.reg false [(q 2 (.alloc true [(.int .i64 0), (.sl 0 [] true), (.int .i64 0), (.int .i64 0), (.bool false), (.sl 0 [] true)])),(q 3 (.alloc false [(.int .i64 0)]))] [0, 2, 3]),(.reg false [(J 8 0),(q 9 (.conv .strToBytes (v 8))),(q 10 (.call (cf 40) [(v 9)])),(J 7 10),(q 11 (.extract (v 7) 0)),(q 12 (.extract (v 7) 1)),(J 4 11),(J 5 12)] [0, 2, 3, 4, 5]),(.seq (K [(J 13 5),(q 14 (.bin .neq (v 13) (ci 0))),(J 15 14),⟨(some 16), .mov (v 0), (some (15, false)), []⟩,⟨(some 17), .lens (v 16), (some (15, false)), []⟩,⟨(some 18), .bin .gtr (v 17) (ci 4096), (some (15, false)), []⟩,(q 19 (.pick (v 15) (.c (.bool true)) (v 18)))] [2, 3, 4, 19])
 (.cond (v 19) (.seq (K [(q 20 (.build [(.int .i64 0), (.sl 0 [] true), (.int .i64 0), (.int .i64 0), (.bool false), (.sl 0 [] true)] [])),⟨none, .store true 6 (v 2) (v 20), none, []⟩,⟨none, .store false 1 (v 3) (ci 90), none, []⟩] [2, 3])
 .ret) .skip))],
 .mkfunc (.func 43) [] [(v 2), (v 3)], 21,(.seq (K [(J 22 4),(q 23 (.build [(.sl 0 [] true), (.int .i64 0)] [(0, 1, (v 22))])),(q 24 (.box true 2 (v 23))),(J 6 24)] [2, 3, 6])
 (.seq (K [(J 25 6),(q 26 (.call (cf 44) [(v 25)])),⟨none, .store true 6 (v 2) (v 26), none, []⟩] [2, 3, 6])
 (.seq (K [(J 27 6),(q 28 (.nilck (v 27))),(q 29 (.faddr 0 (v 28))),(q 30 (.load none (v 29))),(q 31 (.len (v 30))),(q 32 (.bin .eql (v 31) (ci 0))),(q 33 (.call (cf 45) [(v 32)]))] [2, 3])
 (.seq (K [(q 34 (.load (some 6) (v 2))),⟨none, .store true 6 (v 2) (v 34), none, []⟩,⟨none, .store false 1 (v 3) (ci 0), none, []⟩] [2, 3])
 .ret)))),⟨1, 35, .skip, [.c 2 (some 6), .c 3 none], true, []⟩, 43, 5,(.block 0 (.seq (K [(q 7 (.isnil .iface false (v 5)))] [0, 1, 5, 7])
 (.cond (v 7) (.reg false [(J 2 5)] []) (.seq (K [(q 8 (.assert 92 (.agg []) (v 5) true)),(q 9 (.extract (v 8) 1)),(q 10 (.extract (v 8) 0))] [0, 1, 5, 9, 10])
 (.cond (v 9) (.seq (K [(q 3 (.alloc true [])),⟨none, .store true 0 (v 3) (v 10), none, []⟩] [0, 1])
 (.reg false [(q 11 (.build [(.int .i64 0), (.sl 0 [] true), (.int .i64 0), (.int .i64 0), (.bool false), (.sl 0 [] true)] [])),⟨none, .store true 6 (v 0) (v 11), none, []⟩,⟨none, .store false 1 (v 1) (ci 90), none, []⟩] [])) (.seq (K [(J 4 5)] [4])
 (.reg false [(J 6 4),⟨none, .panic (v 6), none, []⟩] []))))))), ⟨2, 12, .skip, [], true, []⟩⟩
/- caliper/caliperref01.Ints -/
def f25_l0 : VCode :=
 (.seq (.seq (K [(J 11 5),(J 12 0),(q 13 (.len (v 12))),(q 14 (.bin .lss (v 11) (v 13)))] [0, 1, 5, 14])
 (.cond (v 14) .skip (.exit 0)))
 (.seq (.block 1 (.seq (B [(J 17 0),(J 18 5),(q 19 (.iaddr 1 (v 17) (v 18))),(q 20 (.load none (v 19))),(J 21 1),(J 22 5),(q 23 (.iaddr 1 (v 21) (v 22))),(q 24 (.load none (v 23))),(q 25 (.bin .neq (v 20) (v 24)))] [0, 1, 5, 25])
 (.cond (v 25) (.seq (K [(q 4 (.mov (.c (.bool false))))] [4])
 .ret) .skip)))
 (.reg false [(J 15 5),(q 16 (.bin .add (v 15) (ci 1))),(J 5 16)] [0, 1, 5])))
def f25_c : VCode :=
 (.seq (K [(q 4 (.mov (.c (.bool false))))] [0, 1])
 (.seq (.seq (K [(J 6 0),(q 7 (.len (v 6))),(J 8 1),(q 9 (.len (v 8))),(q 10 (.bin .neq (v 7) (v 9)))] [0, 1, 10])
 (.cond (v 10) (.seq (K [(q 4 (.mov (.c (.bool false))))] [4])
 .ret) .skip))
 (.seq (.seq (K [(q 5 (.mov (ci 0)))] [0, 1, 5])
 (.block 0 (.loop [0, 1, 5] f25_l0)))
 (.seq (K [(q 4 (.mov (.c (.bool true))))] [4])
 .ret))))
def f25 : VFn := ⟨2, 26, f25_c, [.t 4], true, []⟩
/- caliper/rx.Check -/
def f26_c : VCode :=
 (.seq (K [(q 1 (.box true 6 (v 0))),(q 2 (.mov (ci 0)))] [1])
 (.seq (.seq (K [(q 3 (.load (some 6) (v 1))),(q 4 (.call (cf 46) [(v 3), (ci 1000)])),(q 5 (.un .not (v 4)))] [5])
 (.cond (v 5) (.seq (K [(q 2 (.mov (ci 91)))] [2])
 .ret) .skip))
 (.seq (K [(q 2 (.mov (ci 0)))] [2])
 .ret)))
def f26 : VFn := ⟨1, 6, f26_c, [.t 2], true, []⟩
/- caliper/nfa.size -/
def f27_l0 : VCode :=
 (.seq (K [(q 12 (.bin .lss (v 11) (v 10)))] [1, 2, 5, 9, 10, 11, 12])
 (.seq (.cond (v 12) .skip (.exit 0))
 (.seq (.block 1 (.seq (K [(q 13 (.iaddr 6 (v 9) (v 11))),(q 14 (.load (some 6) (v 13))),(q 7 (.alloc true [(.int .i64 0), (.sl 0 [] true), (.int .i64 0), (.int .i64 0), (.bool false), (.sl 0 [] true)])),⟨none, .store true 6 (v 7) (v 14), none, []⟩] [1, 2, 5, 7, 9, 10, 11])
 (.reg false [(J 15 5),(q 16 (.load (some 6) (v 7))),(J 17 1),(q 18 (.call (cf 27) [(v 16), (v 17)])),(q 19 (.bin .add (v 15) (v 18))),(J 20 1),(q 21 (.min [(v 19), (v 20)])),(J 5 21)] [1, 2, 5, 9, 10, 11])))
 (.reg false [(q 22 (.bin .add (v 11) (ci 1))),(J 11 22)] [1, 2, 5, 9, 10, 11]))))
def f27_c : VCode :=
 (.seq (K [(q 2 (.box true 6 (v 0))),(q 4 (.mov (ci 0)))] [1, 2])
 (.seq (K [(q 5 (.mov (ci 0)))] [1, 2, 5])
 (.seq (.seq (K [(q 8 (.faddr 5 (v 2))),(q 9 (.load none (v 8))),(q 10 (.len (v 9))),(q 11 (.mov (ci 0)))] [1, 2, 5, 9, 10, 11])
 (.block 0 (.loop [1, 2, 5, 9, 10, 11] f27_l0)))
 (.seq (.seq (K [(q 23 (.faddr 0 (v 2))),(q 24 (.load none (v 23)))] [1, 2, 5, 24])
 (.block 2 (.seq (.seq (K [(q 28 (.bin .eql (v 24) (ci 1))),(J 27 28)] [1, 2, 5, 24, 27])
 (.cond (v 27) .skip (.reg false [(q 29 (.bin .eql (v 24) (ci 3))),(J 27 29)] [1, 2, 5, 24, 27])))
 (.cond (v 27) .skip (.seq (K [(q 31 (.bin .eql (v 24) (ci 4))),(J 30 31)] [1, 2, 5, 24, 30])
 (.cond (v 30) (.reg false [(J 32 5),(q 33 (.faddr 5 (v 2))),(q 34 (.load none (v 33))),(q 35 (.len (v 34))),(q 36 (.bin .sub (v 35) (ci 1))),(q 37 (.bin .mul (ci 2) (v 36))),(q 38 (.bin .add (v 32) (v 37))),(J 5 38)] [1, 5]) (.seq (K [(q 40 (.bin .eql (v 24) (ci 5))),(J 39 40)] [1, 2, 5, 39])
 (.cond (v 39) (.seq (K [(q 41 (.faddr 3 (v 2))),(q 42 (.load none (v 41))),(q 43 (.bin .lss (v 42) (ci 0)))] [1, 2, 5, 43])
 (.cond (v 43) (.reg false [(q 44 (.faddr 2 (v 2))),(q 45 (.load none (v 44))),(J 46 5),(q 47 (.bin .mul (v 45) (v 46))),(J 48 5),(q 49 (.bin .add (v 47) (v 48))),(q 50 (.bin .add (v 49) (ci 2))),(J 5 50)] [1, 5]) (.reg false [(q 51 (.faddr 2 (v 2))),(q 52 (.load none (v 51))),(J 53 5),(q 54 (.bin .mul (v 52) (v 53))),(q 55 (.faddr 3 (v 2))),(q 56 (.load none (v 55))),(q 57 (.faddr 2 (v 2))),(q 58 (.load none (v 57))),(q 59 (.bin .sub (v 56) (v 58))),(J 60 5),(q 61 (.bin .add (v 60) (ci 1))),(q 62 (.bin .mul (v 59) (v 61))),(q 63 (.bin .add (v 54) (v 62))),(J 5 63)] [1, 5]))) (.reg false [(J 25 5),(q 26 (.bin .add (v 25) (ci 1))),(J 5 26)] [1, 5])))))))))
 (.seq (K [(J 64 5),(J 65 1),(q 66 (.min [(v 64), (v 65)])),(J 4 66)] [4])
 .ret)))))
def f27 : VFn := ⟨2, 67, f27_c, [.t 4], true, []⟩
/- caliper/pike.Ends$1 -/
def f28_c : VCode :=
 (.seq (K [(q 7 (.mov (.c (.bool false))))] [0, 2, 3])
 (.seq (.seq (K [(J 8 2)] [0, 3, 8])
 (.cond (v 8) (.reg false [(q 9 (.load none (v 3))),(J 10 0),(q 11 (.buildRow false 1 1 [(.int .i64 0)] [(0, (v 10))])),(q 12 (.append 1 8 (v 9) (v 11))),⟨none, .store false 1 (v 3) (v 12), none, []⟩] []) .skip))
 (.seq (K [(q 7 (.mov (.c (.bool true))))] [7])
 .ret)))
def f28 : VFn := ⟨4, 13, f28_c, [.t 7], true, []⟩
/- slices.pdqsortCmpFunc[caliper/api.Range] -/
def f29_l0 : VCode :=
 (.block 1 (.seq (K [(J 21 2),(J 22 1),(q 23 (.bin .sub (v 21) (v 22))),(J 12 23)] [0, 1, 2, 3, 4, 10, 11, 12])
 (.seq (.seq (K [(J 24 12),(q 25 (.bin .leq (v 24) (ci 12)))] [0, 1, 2, 3, 4, 10, 11, 12, 25])
 (.cond (v 25) (.seq (K [(J 26 0),(J 27 1),(J 28 2),(J 29 4),(q 30 (.call (cf 47) [(v 26), (v 27), (v 28), (v 29)]))] [])
 .ret) .skip))
 (.seq (.seq (K [(J 31 3),(q 32 (.bin .eql (v 31) (ci 0)))] [0, 1, 2, 3, 4, 10, 11, 12, 32])
 (.cond (v 32) (.seq (K [(J 33 0),(J 34 1),(J 35 2),(J 36 4),(q 37 (.call (cf 48) [(v 33), (v 34), (v 35), (v 36)]))] [])
 .ret) .skip))
 (.seq (.seq (K [(J 38 10),(q 39 (.un .not (v 38)))] [0, 1, 2, 3, 4, 10, 11, 12, 39])
 (.cond (v 39) (.seq (K [(J 40 0),(J 41 1),(J 42 2),(J 43 4),(q 44 (.call (cf 49) [(v 40), (v 41), (v 42), (v 43)]))] [0, 1, 2, 3, 4, 10, 11, 12])
 (.reg false [(J 45 3),(q 46 (.bin .sub (v 45) (ci 1))),(J 3 46)] [0, 1, 2, 3, 4, 10, 11, 12])) .skip))
 (.seq (K [(J 48 0),(J 49 1),(J 50 2),(J 51 4),(q 52 (.call (cf 50) [(v 48), (v 49), (v 50), (v 51)])),(J 47 52),(q 53 (.extract (v 47) 0)),(q 54 (.extract (v 47) 1)),(J 13 53),(J 14 54)] [0, 1, 2, 3, 4, 10, 11, 12, 13, 14])
 (.seq (.seq (K [(J 55 14),(q 56 (.bin .eql (v 55) (ci 2)))] [0, 1, 2, 3, 4, 10, 11, 12, 13, 14, 56])
 (.cond (v 56) (.seq (K [(J 57 0),(J 58 1),(J 59 2),(J 60 4),(q 61 (.call (cf 51) [(v 57), (v 58), (v 59), (v 60)]))] [0, 1, 2, 3, 4, 10, 11, 12, 13])
 (.seq (K [(J 62 2),(q 63 (.bin .sub (v 62) (ci 1))),(J 64 13),(J 65 1),(q 66 (.bin .sub (v 64) (v 65))),(q 67 (.bin .sub (v 63) (v 66))),(J 13 67)] [0, 1, 2, 3, 4, 10, 11, 12, 13])
 (.reg false [(q 14 (.mov (ci 1)))] [0, 1, 2, 3, 4, 10, 11, 12, 13, 14]))) .skip))
 (.seq (.seq (K [(J 68 10),(J 69 68),(Z 70 11 69),(q 71 (.pick (v 69) (v 70) (.c (.bool false)))),(J 72 71),(Z 73 14 72),(Y 74 (.bin .eql (v 73) (ci 1)) 72),(q 75 (.pick (v 72) (v 74) (.c (.bool false))))] [0, 1, 2, 3, 4, 10, 11, 12, 13, 75])
 (.cond (v 75) (.seq (K [(J 76 0),(J 77 1),(J 78 2),(J 79 4),(q 80 (.call (cf 52) [(v 76), (v 77), (v 78), (v 79)]))] [0, 1, 2, 3, 4, 10, 11, 12, 13, 80])
 (.cond (v 80) .ret .skip)) .skip))
 (.seq (.seq (B [(J 81 1),(q 82 (.bin .gtr (v 81) (ci 0))),(J 83 82),(Z 84 4 83),(Z 85 0 83),(Z 86 1 83),(Y 87 (.bin .sub (v 86) (ci 1)) 83),(Y 88 (.iaddr 2 (v 85) (v 87)) 83),(Y 89 (.load (some 2) (v 88)) 83),(Z 90 0 83),(Z 91 13 83),(Y 92 (.iaddr 2 (v 90) (v 91)) 83),(Y 93 (.load (some 2) (v 92)) 83),(Y 94 (.call (v 84) [(v 89), (v 93)]) 83),(Y 95 (.bin .lss (v 94) (ci 0)) 83),(Y 96 (.un .not (v 95)) 83),(q 97 (.pick (v 83) (v 96) (.c (.bool false))))] [0, 1, 2, 3, 4, 10, 11, 12, 13, 97])
 (.cond (v 97) (.seq (K [(J 98 0),(J 99 1),(J 100 2),(J 101 13),(J 102 4),(q 103 (.call (cf 53) [(v 98), (v 99), (v 100), (v 101), (v 102)])),(J 15 103)] [0, 2, 3, 4, 10, 11, 15])
 (.seq (K [(J 104 15),(J 1 104)] [0, 1, 2, 3, 4, 10, 11])
 (.exit 1))) .skip))
 (.seq (K [(J 106 0),(J 107 1),(J 108 2),(J 109 13),(J 110 4),(q 111 (.call (cf 54) [(v 106), (v 107), (v 108), (v 109), (v 110)])),(J 105 111),(q 112 (.extract (v 105) 0)),(q 113 (.extract (v 105) 1)),(J 16 112),(J 17 113)] [0, 1, 2, 3, 4, 12, 16, 17])
 (.seq (K [(J 114 17),(J 11 114)] [0, 1, 2, 3, 4, 11, 12, 16])
 (.seq (K [(J 115 16),(J 116 1),(q 117 (.bin .sub (v 115) (v 116))),(J 118 2),(J 119 16),(q 120 (.bin .sub (v 118) (v 119))),(J 18 117),(J 19 120)] [0, 1, 2, 3, 4, 11, 12, 16, 18, 19])
 (.seq (K [(J 121 12),(q 122 (.bin .quo (v 121) (ci 8))),(J 20 122)] [0, 1, 2, 3, 4, 11, 16, 18, 19, 20])
 (.seq (K [(J 123 18),(J 124 19),(q 125 (.bin .lss (v 123) (v 124)))] [0, 1, 2, 3, 4, 11, 16, 18, 19, 20, 125])
 (.cond (v 125) (.seq (K [(J 126 18),(J 127 20),(q 128 (.bin .geq (v 126) (v 127))),(J 10 128)] [0, 1, 2, 3, 4, 10, 11, 16])
 (.seq (K [(J 129 0),(J 130 1),(J 131 16),(J 132 3),(J 133 4),(q 134 (.call (cf 29) [(v 129), (v 130), (v 131), (v 132), (v 133)]))] [0, 2, 3, 4, 10, 11, 16])
 (.reg false [(J 135 16),(q 136 (.bin .add (v 135) (ci 1))),(J 1 136)] [0, 1, 2, 3, 4, 10, 11]))) (.seq (K [(J 137 19),(J 138 20),(q 139 (.bin .geq (v 137) (v 138))),(J 10 139)] [0, 1, 2, 3, 4, 10, 11, 16])
 (.seq (K [(J 140 0),(J 141 16),(q 142 (.bin .add (v 141) (ci 1))),(J 143 2),(J 144 3),(J 145 4),(q 146 (.call (cf 29) [(v 140), (v 142), (v 143), (v 144), (v 145)]))] [0, 1, 3, 4, 10, 11, 16])
 (.reg false [(J 147 16),(J 2 147)] [0, 1, 2, 3, 4, 10, 11]))))))))))))))))))
def f29_c : VCode :=
 (.seq (K [(q 10 (.mov (.c (.bool true))))] [0, 1, 2, 3, 4, 10])
 (.seq (K [(q 11 (.mov (.c (.bool true))))] [0, 1, 2, 3, 4, 10, 11])
 (.block 0 (.loop [0, 1, 2, 3, 4, 10, 11] f29_l0))))
def f29 : VFn := ⟨5, 148, f29_c, [], false, [0]⟩
/- math/bits.Len -/
def f30_c : VCode :=
 (.seq (K [(q 2 (.mov (ci 0)))] [0])
 (.seq (.cond (.c (.bool false)) (.seq (K [(J 3 0),(q 4 (.conv (.toInt .u32) (v 3))),(q 5 (.call (cf 55) [(v 4)])),(J 2 5)] [2])
 .ret) .skip)
 (.seq (K [(J 6 0),(q 7 (.call (cf 56) [(v 6)])),(J 2 7)] [2])
 .ret)))
def f30 : VFn := ⟨1, 8, f30_c, [.t 2], true, []⟩
/- cmp.isNaN[int] -/
def f31_c : VCode :=
 (.seq (K [(q 2 (.mov (.c (.bool false))))] [0])
 (.seq (K [(J 3 0),(J 4 0),(q 5 (.bin .neq (v 3) (v 4))),(J 2 5)] [2])
 .ret))
def f31 : VFn := ⟨1, 6, f31_c, [.t 2], true, []⟩
/- (*caliper/nfa.builder).put -/
def f32_c : VCode :=
 (.seq (K [(q 3 (.box true 4 (v 1))),(q 4 (.mov (ci 0)))] [0, 3])
 (.seq (K [(J 6 0),(q 7 (.nilck (v 6))),(q 8 (.faddr 0 (v 7))),(q 9 (.load none (v 8))),(q 10 (.len (v 9))),(J 5 10)] [0, 3, 5])
 (.seq (K [(J 11 5),(q 12 (.bin .add (v 11) (ci 1))),(q 13 (.faddr 2 (v 3))),⟨none, .store false 1 (v 13) (v 12), none, []⟩] [0, 3, 5])
 (.seq (B [(J 14 0),(J 15 0),(q 16 (.nilck (v 15))),(q 17 (.faddr 0 (v 16))),(q 18 (.load none (v 17))),(q 19 (.load (some 4) (v 3))),(q 20 (.buildRow true 4 1 [(.int .i64 0), (.sl 0 [] true), (.int .i64 0), (.int .i64 0)] [(0, (v 19))])),(q 21 (.append 4 48 (v 18) (v 20))),(q 22 (.nilck (v 14))),(q 23 (.faddr 0 (v 22))),⟨none, .store false 1 (v 23) (v 21), none, []⟩] [5])
 (.seq (K [(J 24 5),(J 4 24)] [4])
 .ret)))))
def f32 : VFn := ⟨2, 25, f32_c, [.t 4], true, []⟩
/- slices.Clone[[]caliper/api.Range,caliper/api.Range] -/
def f33_c : VCode :=
 (.seq (K [(q 2 (.nilrow 2))] [0])
 (.seq (.seq (K [(J 3 0),(q 4 (.isnil .slice false (v 3)))] [0, 4])
 (.cond (v 4) (.seq (K [(q 2 (.nilrow 2))] [2])
 .ret) .skip))
 (.seq (K [(q 5 (.buildRow true 2 0 [(.int .i64 0), (.int .i64 0)] [])),(J 6 0),(q 7 (.append 2 16 (v 5) (v 6))),(J 2 7)] [2])
 .ret)))
def f33 : VFn := ⟨1, 8, f33_c, [.t 2], true, []⟩
/- (*caliper/nfa.builder).fork -/
def f34_c : VCode :=
 (.seq (K [(q 1 (.box false 1 (v 0))),(q 2 (.mov (.c .nilf)))] [1])
 (.seq (K [(q 4 (.load none (v 1))),(q 5 (.build [(.int .i64 0), (.sl 0 [] true), (.int .i64 0), (.int .i64 0)] [(0, 1, (ci 2))])),(q 6 (.call (cf 32) [(v 4), (v 5)])),(q 3 (.alloc false [(.int .i64 0)])),⟨none, .store false 1 (v 3) (v 6), none, []⟩] [1, 3])
 (.seq (K [(q 7 (.mkfunc (.func 57) [] [(v 1), (v 3)])),(J 2 7)] [2])
 .ret)))
def f34 : VFn := ⟨1, 8, f34_c, [.t 2], false, []⟩
/- (*caliper/nfa.builder).jump -/
def f35_c : VCode :=
 (.seq (K [(q 1 (.box false 1 (v 0))),(q 2 (.mov (.c .nilf)))] [1])
 (.seq (K [(q 4 (.load none (v 1))),(q 5 (.build [(.int .i64 0), (.sl 0 [] true), (.int .i64 0), (.int .i64 0)] [(0, 1, (ci 2))])),(q 6 (.call (cf 32) [(v 4), (v 5)])),(q 3 (.alloc false [(.int .i64 0)])),⟨none, .store false 1 (v 3) (v 6), none, []⟩] [1, 3])
 (.seq (K [(q 7 (.mkfunc (.func 58) [] [(v 1), (v 3)])),(J 2 7)] [2])
 .ret)))
def f35 : VFn := ⟨1, 8, f35_c, [.t 2], false, []⟩
/- (*caliper/nfa.builder).repeat -/
def f36_l0 : VCode :=
 (.seq (K [(q 20 (.bin .lss (v 19) (v 18)))] [0, 3, 18, 19, 20])
 (.seq (.cond (v 20) .skip (.exit 0))
 (.seq (.block 1 (.reg false [(J 21 0),(q 22 (.faddr 5 (v 3))),(q 23 (.load none (v 22))),(q 24 (.iaddr 6 (v 23) (ci 0))),(q 25 (.load (some 6) (v 24))),(q 26 (.call (cf 18) [(v 21), (v 25)]))] [0, 3, 18, 19]))
 (.reg false [(q 27 (.bin .add (v 19) (ci 1))),(J 19 27)] [0, 3, 18, 19]))))
def f36_l1 : VCode :=
 (.seq (K [(q 56 (.bin .lss (v 55) (v 54)))] [0, 3, 7, 54, 55, 56])
 (.seq (.cond (v 56) .skip (.exit 2))
 (.seq (.block 3 (.seq (K [(J 57 7),(J 58 0),(q 59 (.call (cf 34) [(v 58)])),(q 60 (.buildRow false 1 1 [.nilf] [(0, (v 59))])),(q 61 (.append 1 8 (v 57) (v 60))),(J 7 61)] [0, 3, 7, 54, 55])
 (.reg false [(J 62 0),(q 63 (.faddr 5 (v 3))),(q 64 (.load none (v 63))),(q 65 (.iaddr 6 (v 64) (ci 0))),(q 66 (.load (some 6) (v 65))),(q 67 (.call (cf 18) [(v 62), (v 66)]))] [0, 3, 7, 54, 55])))
 (.reg false [(q 68 (.bin .add (v 55) (ci 1))),(J 55 68)] [0, 3, 7, 54, 55]))))
def f36_l2 : VCode :=
 (.seq (K [(q 72 (.bin .lss (v 71) (v 70)))] [69, 70, 71, 72])
 (.seq (.cond (v 72) .skip (.exit 4))
 (.seq (.block 5 (.seq (K [(q 73 (.iaddr 1 (v 69) (v 71))),(q 74 (.load none (v 73))),(J 9 74)] [9, 69, 70, 71])
 (.reg false [(J 75 9),(q 76 (.call (v 75) []))] [69, 70, 71])))
 (.reg false [(q 77 (.bin .add (v 71) (ci 1))),(J 71 77)] [69, 70, 71]))))
def f36_c : VCode :=
 (.seq (K [(q 3 (.box true 6 (v 1)))] [0, 3])
 (.seq (K [(q 10 (.faddr 2 (v 3))),(q 11 (.load none (v 10))),(J 4 11)] [0, 3, 4])
 (.seq (.seq (K [(q 12 (.faddr 5 (v 3))),(q 13 (.load none (v 12))),(q 14 (.iaddr 6 (v 13) (ci 0))),(q 15 (.load (some 6) (v 14))),(q 16 (.call (cf 27) [(v 15), (ci 1)])),(q 17 (.bin .eql (v 16) (ci 0)))] [0, 3, 4, 17])
 (.cond (v 17) (.reg false [(q 4 (.mov (ci 0)))] [0, 3, 4]) .skip))
 (.seq (.seq (K [(J 18 4),(q 19 (.mov (ci 0)))] [0, 3, 18, 19])
 (.block 0 (.loop [0, 3, 18, 19] f36_l0)))
 (.seq (.seq (K [(q 28 (.faddr 3 (v 3))),(q 29 (.load none (v 28))),(q 30 (.bin .lss (v 29) (ci 0)))] [0, 3, 30])
 (.cond (v 30) (.seq (K [(J 31 0),(q 32 (.nilck (v 31))),(q 33 (.faddr 0 (v 32))),(q 34 (.load none (v 33))),(q 35 (.len (v 34))),(J 5 35)] [0, 3, 5])
 (.seq (K [(J 36 0),(q 37 (.call (cf 34) [(v 36)])),(J 6 37)] [0, 3, 5, 6])
 (.seq (K [(J 38 0),(q 39 (.faddr 5 (v 3))),(q 40 (.load none (v 39))),(q 41 (.iaddr 6 (v 40) (ci 0))),(q 42 (.load (some 6) (v 41))),(q 43 (.call (cf 18) [(v 38), (v 42)]))] [0, 5, 6])
 (.seq (K [(J 44 0),(q 45 (.call (cf 35) [(v 44)])),(J 46 5),(q 47 (.call (v 45) [(v 46)]))] [6])
 (.seq (K [(J 48 6),(q 49 (.call (v 48) []))] [])
 .ret))))) .skip))
 (.seq (K [(q 7 (.nilrow 1))] [0, 3, 7])
 (.seq (.seq (K [(q 50 (.faddr 3 (v 3))),(q 51 (.load none (v 50))),(q 52 (.faddr 2 (v 3))),(q 53 (.load none (v 52))),(q 54 (.bin .sub (v 51) (v 53))),(q 55 (.mov (ci 0)))] [0, 3, 7, 54, 55])
 (.block 2 (.loop [0, 3, 7, 54, 55] f36_l1)))
 (.seq (K [(J 69 7),(q 70 (.len (v 69))),(q 71 (.mov (ci 0)))] [69, 70, 71])
 (.block 4 (.loop [69, 70, 71] f36_l2))))))))))
def f36 : VFn := ⟨2, 78, f36_c, [], true, []⟩
/- caliper/caliperref01.length -/
def f37_c : VCode :=
 (.seq (K [(q 2 (.mov (ci 0)))] [0])
 (.seq (.block 0 (.seq (K [(J 4 0),(q 5 (.bin .lss (v 4) (.c (.int .u8 128)))),(J 3 5)] [0, 3])
 (.cond (v 3) (.seq (K [(q 2 (.mov (ci 1)))] [2])
 .ret) (.seq (K [(J 7 0),(q 8 (.bin .geq (v 7) (.c (.int .u8 194)))),(J 9 8),(Z 10 0 9),(Y 11 (.bin .leq (v 10) (.c (.int .u8 223))) 9),(q 12 (.pick (v 9) (v 11) (.c (.bool false)))),(J 6 12)] [0, 6])
 (.cond (v 6) (.seq (K [(q 2 (.mov (ci 2)))] [2])
 .ret) (.seq (K [(J 14 0),(q 15 (.bin .geq (v 14) (.c (.int .u8 224)))),(J 16 15),(Z 17 0 16),(Y 18 (.bin .leq (v 17) (.c (.int .u8 239))) 16),(q 19 (.pick (v 16) (v 18) (.c (.bool false)))),(J 13 19)] [0, 13])
 (.cond (v 13) (.seq (K [(q 2 (.mov (ci 3)))] [2])
 .ret) (.seq (K [(J 21 0),(q 22 (.bin .geq (v 21) (.c (.int .u8 240)))),(J 23 22),(Z 24 0 23),(Y 25 (.bin .leq (v 24) (.c (.int .u8 244))) 23),(q 26 (.pick (v 23) (v 25) (.c (.bool false)))),(J 20 26)] [20])
 (.cond (v 20) (.seq (K [(q 2 (.mov (ci 4)))] [2])
 .ret) .skip)))))))))
 (.seq (K [(q 2 (.mov (ci 0)))] [2])
 .ret)))
def f37 : VFn := ⟨1, 27, f37_c, [.t 2], true, []⟩
/- caliper/caliperref01.second -/
def f38_c : VCode :=
 (.seq (K [(q 4 (.mov (.c (.bool false))))] [0, 1])
 (.seq (K [(q 5 (.mov (.c (.int .u8 128)))),(q 6 (.mov (.c (.int .u8 191))))] [0, 1, 5, 6])
 (.seq (.seq (K [(J 7 0)] [1, 5, 6, 7])
 (.block 0 (.seq (K [(q 9 (.bin .eql (v 7) (.c (.int .u8 224)))),(J 8 9)] [1, 5, 6, 7, 8])
 (.cond (v 8) (.reg false [(q 5 (.mov (.c (.int .u8 160))))] [1, 5, 6]) (.seq (K [(q 11 (.bin .eql (v 7) (.c (.int .u8 237)))),(J 10 11)] [1, 5, 6, 7, 10])
 (.cond (v 10) (.reg false [(q 6 (.mov (.c (.int .u8 159))))] [1, 5, 6]) (.seq (K [(q 13 (.bin .eql (v 7) (.c (.int .u8 240)))),(J 12 13)] [1, 5, 6, 7, 12])
 (.cond (v 12) (.reg false [(q 5 (.mov (.c (.int .u8 144))))] [1, 5, 6]) (.seq (K [(q 15 (.bin .eql (v 7) (.c (.int .u8 244)))),(J 14 15)] [1, 5, 6, 14])
 (.cond (v 14) (.reg false [(q 6 (.mov (.c (.int .u8 143))))] [1, 5, 6]) .skip))))))))))
 (.seq (K [(J 16 1),(J 17 5),(q 18 (.bin .geq (v 16) (v 17))),(J 19 18),(Z 20 1 19),(Z 21 6 19),(Y 22 (.bin .leq (v 20) (v 21)) 19),(q 23 (.pick (v 19) (v 22) (.c (.bool false)))),(J 4 23)] [4])
 .ret))))
def f38 : VFn := ⟨2, 24, f38_c, [.t 4], true, []⟩
/- caliper/nfa.Check -/
def f39_c : VCode :=
 (.seq (K [(q 1 (.box false 1 (v 0))),(q 2 (.mov (ci 0)))] [1])
 (.seq (.seq (K [(q 3 (.load none (v 1))),(q 4 (.len (v 3))),(q 5 (.bin .eql (v 4) (ci 0))),(J 6 5),⟨(some 7), .load none (v 1), (some (6, false)), []⟩,⟨(some 8), .mkfunc (.func 60) [] [(v 1)], (some (6, false)), []⟩,⟨(some 9), .call (cf 59) [(v 7), (v 8)], (some (6, false)), []⟩,(q 10 (.pick (v 6) (.c (.bool true)) (v 9)))] [10])
 (.cond (v 10) (.seq (K [(q 2 (.mov (ci 101)))] [2])
 .ret) .skip))
 (.seq (K [(q 2 (.mov (ci 0)))] [2])
 .ret)))
def f39 : VFn := ⟨1, 11, f39_c, [.t 2], true, []⟩
/- caliper/utf.Points -/
def f40_l0 : VCode :=
 (.seq (K [(q 19 (.next (v 18))),(q 20 (.extract (v 19) 0))] [6, 18, 19, 20])
 (.seq (.cond (v 20) .skip (.exit 0))
 (.block 1 (.seq (K [(q 21 (.extract (v 19) 2)),(J 8 21)] [6, 8, 18])
 (.reg false [(J 22 6),(J 23 8),(q 24 (.conv (.toInt .i64) (v 23))),(q 25 (.buildRow false 1 1 [(.int .i64 0)] [(0, (v 24))])),(q 26 (.append 1 8 (v 22) (v 25))),(J 6 26)] [6, 18])))))
def f40_c : VCode :=
 (.seq (K [(q 2 (.nilrow 1)),(q 3 (.mov (ci 0)))] [0])
 (.seq (.seq (K [(J 10 0),(q 11 (.call (cf 62) [(v 10)])),(J 9 11),(q 12 (.extract (v 9) 0)),(q 13 (.extract (v 9) 1)),(J 4 12),(J 5 13)] [0, 5])
 (.seq (K [(J 14 5),(q 15 (.un .not (v 14)))] [0, 15])
 (.cond (v 15) (.seq (K [(q 2 (.nilrow 1)),(q 3 (.mov (ci 10)))] [2, 3])
 .ret) .skip)))
 (.seq (K [(q 6 (.nilrow 1))] [0, 6])
 (.seq (.seq (K [(J 16 0),(q 17 (.conv .bytesToStr (v 16))),(q 18 (.range (v 17)))] [6, 18])
 (.block 0 (.loop [6, 18] f40_l0)))
 (.seq (K [(J 27 6),(J 2 27),(q 3 (.mov (ci 0)))] [2, 3])
 .ret)))))
def f40 : VFn := ⟨1, 28, f40_c, [.t 2, .t 3], true, []⟩
/- (*caliper/pike.run).spread -/
def f41_l0 : VCode :=
 (.seq (.seq (K [(J 16 11),(q 17 (.len (v 16))),(q 18 (.bin .gtr (v 17) (ci 0)))] [0, 2, 8, 9, 10, 11, 18])
 (.cond (v 18) .skip (.exit 0)))
 (.block 1 (.seq (K [(J 19 11),(J 20 11),(q 21 (.len (v 20))),(q 22 (.bin .sub (v 21) (ci 1))),(q 23 (.iaddr 1 (v 19) (v 22))),(q 24 (.load none (v 23))),(J 12 24)] [0, 2, 8, 9, 10, 11, 12])
 (.seq (K [(J 25 11),(J 26 11),(q 27 (.len (v 26))),(q 28 (.bin .sub (v 27) (ci 1))),(J 29 11),(q 30 (.len (v 29))),(q 31 (.bin .sub (v 30) (ci 1))),(q 32 (.sl 1 (v 25) none (some (v 28)) (some (v 31)))),(J 11 32)] [0, 2, 8, 9, 10, 11, 12])
 (.seq (.seq (K [(J 33 8),(J 34 12),(q 35 (.lookup false [.int] (.int .i64 0) (v 33) (v 34) false)),(q 36 (.bin .gtr (v 35) (ci 0)))] [0, 2, 8, 9, 10, 11, 12, 36])
 (.cond (v 36) (.exit 1) .skip))
 (.seq (K [(J 37 8),(J 38 12),⟨none, .mapupd false [.int] (v 37) (v 38) (ci 1), none, []⟩] [0, 2, 8, 9, 10, 11, 12])
 (.seq (K [(J 39 9),(J 40 12),(q 41 (.buildRow false 1 1 [(.int .i64 0)] [(0, (v 40))])),(q 42 (.append 1 8 (v 39) (v 41))),(J 9 42)] [0, 2, 8, 9, 10, 11, 12])
 (.seq (K [(J 43 0),(q 44 (.nilck (v 43))),(q 45 (.faddr 0 (v 44))),(q 46 (.load none (v 45))),(J 47 12),(q 48 (.iaddr 4 (v 46) (v 47))),(q 49 (.load (some 4) (v 48))),(q 13 (.alloc true [(.int .i64 0), (.sl 0 [] true), (.int .i64 0), (.int .i64 0)])),⟨none, .store true 4 (v 13) (v 49), none, []⟩] [0, 2, 8, 9, 10, 11, 13])
 (.seq (K [(J 50 10),(J 51 50),⟨(some 52), .faddr 0 (v 13), (some (51, false)), []⟩,⟨(some 53), .load none (v 52), (some (51, false)), []⟩,⟨(some 54), .bin .eql (v 53) (ci 7), (some (51, false)), []⟩,(q 55 (.pick (v 51) (.c (.bool true)) (v 54))),(J 10 55)] [0, 2, 8, 9, 10, 11, 13])
 (.seq (.seq (K [(J 56 0),(q 57 (.faddr 0 (v 13))),(q 58 (.load none (v 57))),(J 59 2),(q 60 (.call (cf 63) [(v 56), (v 58), (v 59)]))] [0, 2, 8, 9, 10, 11, 13, 60])
 (.cond (v 60) (.reg false [(J 61 11),(q 62 (.faddr 2 (v 13))),(q 63 (.load none (v 62))),(q 64 (.buildRow false 1 1 [(.int .i64 0)] [(0, (v 63))])),(q 65 (.append 1 8 (v 61) (v 64))),(J 11 65)] [0, 2, 8, 9, 10, 11, 13]) .skip))
 (.seq (K [(q 66 (.faddr 0 (v 13))),(q 67 (.load none (v 66))),(q 68 (.bin .eql (v 67) (ci 2)))] [0, 2, 8, 9, 10, 11, 13, 68])
 (.cond (v 68) (.reg false [(J 69 11),(q 70 (.faddr 3 (v 13))),(q 71 (.load none (v 70))),(q 72 (.buildRow false 1 1 [(.int .i64 0)] [(0, (v 71))])),(q 73 (.append 1 8 (v 69) (v 72))),(J 11 73)] [0, 2, 8, 9, 10, 11]) .skip))))))))))))
def f41_c : VCode :=
 (.seq (K [(q 6 (.nilrow 1)),(q 7 (.mov (.c (.bool false))))] [0, 1, 2])
 (.seq (K [(q 14 (.mkmap)),(J 8 14)] [0, 1, 2, 8])
 (.seq (K [(q 9 (.nilrow 1))] [0, 1, 2, 8, 9])
 (.seq (K [(q 10 (.mov (.c (.bool false))))] [0, 1, 2, 8, 9, 10])
 (.seq (K [(J 15 1),(J 11 15)] [0, 2, 8, 9, 10, 11])
 (.seq (.block 0 (.loop [0, 2, 8, 9, 10, 11] f41_l0))
 (.seq (K [(J 74 9),(J 75 10),(J 6 74),(J 7 75)] [6, 7])
 .ret)))))))
def f41 : VFn := ⟨3, 76, f41_c, [.t 6, .t 7], true, []⟩
/- (*caliper/pike.run).follow -/
def f42_l0 : VCode :=
 (.seq (K [(q 28 (.bin .lss (v 27) (v 26)))] [0, 2, 7, 9, 12, 13, 14, 25, 26, 27, 28])
 (.seq (.cond (v 28) .skip (.exit 2))
 (.seq (.block 3 (.seq (K [(q 29 (.iaddr 2 (v 25) (v 27))),(q 30 (.load (some 2) (v 29))),(q 11 (.alloc true [(.int .i64 0), (.int .i64 0)])),⟨none, .store true 2 (v 11) (v 30), none, []⟩] [0, 2, 7, 9, 11, 12, 13, 14, 25, 26, 27])
 (.seq (K [(J 31 2),(q 32 (.faddr 0 (v 11))),(q 33 (.load none (v 32))),(q 34 (.bin .geq (v 31) (v 33))),(J 35 34),(Z 36 2 35),(Y 37 (.faddr 1 (v 11)) 35),(Y 38 (.load none (v 37)) 35),(Y 39 (.bin .leq (v 36) (v 38)) 35),(q 40 (.pick (v 35) (v 39) (.c (.bool false))))] [0, 2, 7, 9, 12, 13, 14, 25, 26, 27, 40])
 (.cond (v 40) (.seq (K [(J 41 7),(J 42 0),(q 43 (.nilck (v 42))),(q 44 (.faddr 0 (v 43))),(q 45 (.load none (v 44))),(J 46 9),(q 47 (.iaddr 4 (v 45) (v 46))),(q 48 (.faddr 2 (v 47))),(q 49 (.load none (v 48))),(q 50 (.buildRow false 1 1 [(.int .i64 0)] [(0, (v 49))])),(q 51 (.append 1 8 (v 41) (v 50))),(J 7 51)] [0, 2, 7, 12, 13, 14])
 (.exit 2)) .skip))))
 (.reg false [(q 52 (.bin .add (v 27) (ci 1))),(J 27 52)] [0, 2, 7, 9, 12, 13, 14, 25, 26, 27]))))
def f42_l1 : VCode :=
 (.seq (K [(q 15 (.bin .lss (v 14) (v 13)))] [0, 2, 7, 12, 13, 14, 15])
 (.seq (.cond (v 15) .skip (.exit 0))
 (.seq (.block 1 (.seq (K [(q 16 (.iaddr 1 (v 12) (v 14))),(q 17 (.load none (v 16))),(J 9 17)] [0, 2, 7, 9, 12, 13, 14])
 (.seq (K [(J 18 0),(q 19 (.nilck (v 18))),(q 20 (.faddr 0 (v 19))),(q 21 (.load none (v 20))),(J 22 9),(q 23 (.iaddr 4 (v 21) (v 22))),(q 24 (.faddr 1 (v 23))),(q 25 (.load none (v 24))),(q 26 (.len (v 25))),(q 27 (.mov (ci 0)))] [0, 2, 7, 9, 12, 13, 14, 25, 26, 27])
 (.block 2 (.loop [0, 2, 7, 9, 12, 13, 14, 25, 26, 27] f42_l0)))))
 (.reg false [(q 53 (.bin .add (v 14) (ci 1))),(J 14 53)] [0, 2, 7, 12, 13, 14]))))
def f42_c : VCode :=
 (.seq (K [(q 6 (.nilrow 1))] [0, 1, 2])
 (.seq (K [(q 7 (.nilrow 1))] [0, 1, 2, 7])
 (.seq (.seq (K [(J 12 1),(q 13 (.len (v 12))),(q 14 (.mov (ci 0)))] [0, 2, 7, 12, 13, 14])
 (.block 0 (.loop [0, 2, 7, 12, 13, 14] f42_l1)))
 (.seq (K [(J 54 7),(J 6 54)] [6])
 .ret))))
def f42 : VFn := ⟨3, 55, f42_c, [.t 6], false, []⟩
/- caliper/rx.Parse$1 -/
def f43_c : VCode :=
 (.seq .stuck
 (.block 0 (.seq (K [(q 7 (.isnil .iface false (v 5)))] [0, 1, 5, 7])
 (.cond (v 7) (.reg false [(J 2 5)] []) (.seq (K [(q 8 (.assert 92 (.agg []) (v 5) true)),(q 9 (.extract (v 8) 1)),(q 10 (.extract (v 8) 0))] [0, 1, 5, 9, 10])
 (.cond (v 9) (.seq (K [(q 3 (.alloc true [])),⟨none, .store true 0 (v 3) (v 10), none, []⟩] [0, 1])
 (.reg false [(q 11 (.build [(.int .i64 0), (.sl 0 [] true), (.int .i64 0), (.int .i64 0), (.bool false), (.sl 0 [] true)] [])),⟨none, .store true 6 (v 0) (v 11), none, []⟩,⟨none, .store false 1 (v 1) (ci 90), none, []⟩] [])) (.seq (K [(J 4 5)] [4])
 (.reg false [(J 6 4),⟨none, .panic (v 6), none, []⟩] []))))))))
def f43 : VFn := ⟨2, 12, f43_c, [], true, []⟩
/- (*caliper/rx.reader).pattern -/
def f44_l0 : VCode :=
 (.seq (.seq (K [(J 7 0),(q 8 (.call (cf 65) [(v 7), (.c (.str ⟨#[124]⟩))]))] [0, 2, 3, 8])
 (.cond (v 8) .skip (.exit 0)))
 (.block 1 (.reg false [(J 9 3),(J 10 0),(q 11 (.call (cf 64) [(v 10)])),(q 12 (.buildRow true 6 1 [(.int .i64 0), (.sl 0 [] true), (.int .i64 0), (.int .i64 0), (.bool false), (.sl 0 [] true)] [(0, (v 11))])),(q 13 (.append 6 80 (v 9) (v 12))),(J 3 13)] [0, 2, 3])))
def f44_c : VCode :=
 (.seq (K [(q 2 (.alloc true [(.int .i64 0), (.sl 0 [] true), (.int .i64 0), (.int .i64 0), (.bool false), (.sl 0 [] true)]))] [0, 2])
 (.seq (K [(J 4 0),(q 5 (.call (cf 64) [(v 4)])),(q 6 (.buildRow true 6 1 [(.int .i64 0), (.sl 0 [] true), (.int .i64 0), (.int .i64 0), (.bool false), (.sl 0 [] true)] [(0, (v 5))])),(J 3 6)] [0, 2, 3])
 (.seq (.block 0 (.loop [0, 2, 3] f44_l0))
 (.seq (K [(J 14 3),(q 15 (.call (cf 66) [(ci 4), (v 14)])),⟨none, .store true 6 (v 2) (v 15), none, []⟩] [2])
 .ret))))
def f44 : VFn := ⟨1, 16, f44_c, [.c 2 (some 6)], true, []⟩
/- caliper/rx.must -/
def f45_c : VCode :=
 (.seq (K [(J 2 0),(q 3 (.un .not (v 2)))] [3])
 (.cond (v 3) (.reg false [(q 4 (.build [] [])),(q 5 (.mkiface 92 (v 4))),⟨none, .panic (v 5), none, []⟩] []) .skip))
def f45 : VFn := ⟨1, 6, f45_c, [], true, []⟩
/- caliper/rx.fits -/
def f46_c : VCode :=
 (.seq (K [(q 2 (.box true 6 (v 0))),(q 3 (.box false 1 (v 1))),(q 4 (.mov (.c (.bool false))))] [2, 3])
 (.seq (.seq (K [(q 7 (.load none (v 3))),(q 8 (.bin .eql (v 7) (ci 0)))] [2, 3, 8])
 (.cond (v 8) (.seq (K [(q 4 (.mov (.c (.bool false))))] [4])
 .ret) .skip))
 (.seq (K [(q 9 (.load (some 6) (v 2))),(q 5 (.alloc true [(.int .i64 0), (.sl 0 [] true), (.int .i64 0), (.int .i64 0), (.bool false), (.sl 0 [] true)])),⟨none, .store true 6 (v 5) (v 9), none, []⟩] [2, 3, 5])
 (.seq (K [(q 10 (.faddr 0 (v 5))),⟨none, .store false 1 (v 10) (ci 0), none, []⟩,(q 11 (.faddr 5 (v 5))),⟨none, .store false 1 (v 11) (.c (.sl 0 [] true)), none, []⟩] [2, 3, 5])
 (.seq (K [(q 12 (.faddr 5 (v 2))),(q 13 (.load none (v 12))),(q 14 (.len (v 13))),(J 6 14)] [2, 3, 5, 6])
 (.seq (.seq (K [(q 15 (.faddr 0 (v 2))),(q 16 (.load none (v 15)))] [2, 3, 5, 6, 16])
 (.block 0 (.seq (.seq (K [(q 18 (.bin .eql (v 16) (ci 1))),(J 17 18)] [2, 3, 5, 6, 16, 17])
 (.cond (v 17) .skip (.seq (K [(q 19 (.bin .eql (v 16) (ci 6))),(J 17 19)] [2, 3, 5, 6, 16, 17])
 (.cond (v 17) .skip (.seq (K [(q 20 (.bin .eql (v 16) (ci 7))),(J 17 20)] [2, 3, 5, 6, 16, 17])
 (.cond (v 17) .skip (.seq (K [(q 21 (.bin .eql (v 16) (ci 8))),(J 17 21)] [2, 3, 5, 6, 16, 17])
 (.cond (v 17) .skip (.reg false [(q 22 (.bin .eql (v 16) (ci 9))),(J 17 22)] [2, 3, 5, 6, 16, 17])))))))))
 (.cond (v 17) (.seq (K [(J 23 6),(q 24 (.bin .gtr (v 23) (ci 0)))] [2, 3, 5, 24])
 (.cond (v 24) (.seq (K [(q 4 (.mov (.c (.bool false))))] [4])
 .ret) .skip)) (.seq (K [(q 26 (.bin .eql (v 16) (ci 2))),(J 25 26)] [2, 3, 5, 6, 16, 25])
 (.cond (v 25) (.seq (.seq (K [(J 27 6),(q 28 (.bin .gtr (v 27) (ci 0))),(J 29 28),⟨(some 30), .faddr 1 (v 2), (some (29, false)), []⟩,⟨(some 31), .load none (v 30), (some (29, false)), []⟩,⟨(some 32), .call (cf 67) [(v 31)], (some (29, false)), []⟩,⟨(some 33), .un .not (v 32), (some (29, false)), []⟩,(q 34 (.pick (v 29) (.c (.bool true)) (v 33)))] [2, 3, 5, 34])
 (.cond (v 34) (.seq (K [(q 4 (.mov (.c (.bool false))))] [4])
 .ret) .skip))
 (.reg false [(q 35 (.faddr 1 (v 5))),⟨none, .store false 1 (v 35) (.c (.sl 0 [] true)), none, []⟩] [2, 3, 5])) (.seq (.seq (K [(q 37 (.bin .eql (v 16) (ci 3))),(J 36 37)] [2, 3, 5, 6, 16, 36])
 (.cond (v 36) .skip (.reg false [(q 38 (.bin .eql (v 16) (ci 4))),(J 36 38)] [2, 3, 5, 6, 16, 36])))
 (.cond (v 36) (.seq (K [(J 39 6),(q 40 (.bin .lss (v 39) (ci 2)))] [2, 3, 5, 40])
 (.cond (v 40) (.seq (K [(q 4 (.mov (.c (.bool false))))] [4])
 .ret) .skip)) (.seq (K [(q 42 (.bin .eql (v 16) (ci 5))),(J 41 42)] [2, 3, 5, 6, 41])
 (.cond (v 41) (.seq (.seq (K [(J 43 6),(q 44 (.bin .neq (v 43) (ci 1))),(J 45 44),⟨(some 46), .faddr 2 (v 2), (some (45, false)), []⟩,⟨(some 47), .load none (v 46), (some (45, false)), []⟩,⟨(some 48), .bin .lss (v 47) (ci 0), (some (45, false)), []⟩,(q 49 (.pick (v 45) (.c (.bool true)) (v 48))),(J 50 49),⟨(some 51), .faddr 2 (v 2), (some (50, false)), []⟩,⟨(some 52), .load none (v 51), (some (50, false)), []⟩,⟨(some 53), .bin .gtr (v 52) (ci 1000), (some (50, false)), []⟩,(q 54 (.pick (v 50) (.c (.bool true)) (v 53))),(J 55 54),⟨(some 56), .faddr 3 (v 2), (some (55, false)), []⟩,⟨(some 57), .load none (v 56), (some (55, false)), []⟩,⟨(some 58), .bin .lss (v 57) (ci (-1)), (some (55, false)), []⟩,(q 59 (.pick (v 55) (.c (.bool true)) (v 58))),(J 60 59),⟨(some 61), .faddr 3 (v 2), (some (60, false)), []⟩,⟨(some 62), .load none (v 61), (some (60, false)), []⟩,⟨(some 63), .bin .gtr (v 62) (ci 1000), (some (60, false)), []⟩,(q 64 (.pick (v 60) (.c (.bool true)) (v 63))),(J 65 64),⟨(some 66), .faddr 3 (v 2), (some (65, false)), []⟩,⟨(some 67), .load none (v 66), (some (65, false)), []⟩,⟨(some 68), .bin .geq (v 67) (ci 0), (some (65, false)), []⟩,⟨(some 69), .mov (v 68), (some (65, false)), []⟩,(Y 70 (.faddr 3 (v 2)) 69),(Y 71 (.load none (v 70)) 69),(Y 72 (.faddr 2 (v 2)) 69),(Y 73 (.load none (v 72)) 69),(Y 74 (.bin .lss (v 71) (v 73)) 69),⟨(some 75), .pick (v 69) (v 74) (.c (.bool false)), (some (65, false)), []⟩,(q 76 (.pick (v 65) (.c (.bool true)) (v 75)))] [2, 3, 5, 76])
 (.cond (v 76) (.seq (K [(q 4 (.mov (.c (.bool false))))] [4])
 .ret) .skip))
 (.reg false [(q 77 (.faddr 2 (v 5))),⟨none, .store false 1 (v 77) (ci 0), none, []⟩,(q 78 (.faddr 3 (v 5))),⟨none, .store false 1 (v 78) (ci 0), none, []⟩,(q 79 (.faddr 4 (v 5))),⟨none, .store false 1 (v 79) (.c (.bool false)), none, []⟩] [2, 3, 5])) (.seq (K [(q 4 (.mov (.c (.bool false))))] [4])
 .ret)))))))))))
 (.seq (.seq (K [(q 80 (.faddr 1 (v 5))),(q 81 (.load none (v 80))),(q 82 (.len (v 81))),(q 83 (.bin .gtr (v 82) (ci 0))),(J 84 83),⟨(some 85), .faddr 2 (v 5), (some (84, false)), []⟩,⟨(some 86), .load none (v 85), (some (84, false)), []⟩,⟨(some 87), .bin .neq (v 86) (ci 0), (some (84, false)), []⟩,(q 88 (.pick (v 84) (.c (.bool true)) (v 87))),(J 89 88),⟨(some 90), .faddr 3 (v 5), (some (89, false)), []⟩,⟨(some 91), .load none (v 90), (some (89, false)), []⟩,⟨(some 92), .bin .neq (v 91) (ci 0), (some (89, false)), []⟩,(q 93 (.pick (v 89) (.c (.bool true)) (v 92))),(J 94 93),⟨(some 95), .faddr 4 (v 5), (some (94, false)), []⟩,⟨(some 96), .load none (v 95), (some (94, false)), []⟩,(q 97 (.pick (v 94) (.c (.bool true)) (v 96)))] [2, 3, 97])
 (.cond (v 97) (.seq (K [(q 4 (.mov (.c (.bool false))))] [4])
 .ret) .skip))
 (.seq (K [(q 98 (.faddr 5 (v 2))),(q 99 (.load none (v 98))),(q 100 (.mkfunc (.func 69) [] [(v 3)])),(q 101 (.call (cf 68) [(v 99), (v 100)])),(q 102 (.un .not (v 101))),(J 4 102)] [4])
 .ret))))))))
def f46 : VFn := ⟨2, 103, f46_c, [.t 4], true, []⟩
/- slices.insertionSortCmpFunc[caliper/api.Range] -/
def f47_l0 : VCode :=
 (.seq (.seq (B [(J 18 9),(J 19 1),(q 20 (.bin .gtr (v 18) (v 19))),(J 21 20),(Z 22 3 21),(Z 23 0 21),(Z 24 9 21),(Y 25 (.iaddr 2 (v 23) (v 24)) 21),(Y 26 (.load (some 2) (v 25)) 21),(Z 27 0 21),(Z 28 9 21),(Y 29 (.bin .sub (v 28) (ci 1)) 21),(Y 30 (.iaddr 2 (v 27) (v 29)) 21),(Y 31 (.load (some 2) (v 30)) 21),(Y 32 (.call (v 22) [(v 26), (v 31)]) 21),(Y 33 (.bin .lss (v 32) (ci 0)) 21),(q 34 (.pick (v 21) (v 33) (.c (.bool false))))] [0, 1, 2, 3, 8, 9, 34])
 (.cond (v 34) .skip (.exit 2)))
 (.seq (.block 3 (.reg true [(J 37 0),(J 38 9),(J 39 0),(J 40 9),(q 41 (.bin .sub (v 40) (ci 1))),(J 42 0),(J 43 9),(q 44 (.bin .sub (v 43) (ci 1))),(q 45 (.iaddr 2 (v 42) (v 44))),(q 46 (.load (some 2) (v 45))),(J 47 0),(J 48 9),(q 49 (.iaddr 2 (v 47) (v 48))),(q 50 (.load (some 2) (v 49))),(q 51 (.iaddr 2 (v 37) (v 38))),⟨none, .store true 2 (v 51) (v 46), none, []⟩,(q 52 (.iaddr 2 (v 39) (v 41))),⟨none, .store true 2 (v 52) (v 50), none, []⟩] [0, 1, 2, 3, 8, 9]))
 (.reg false [(J 35 9),(q 36 (.bin .sub (v 35) (ci 1))),(J 9 36)] [0, 1, 2, 3, 8, 9])))
def f47_l1 : VCode :=
 (.seq (.seq (K [(J 12 8),(J 13 2),(q 14 (.bin .lss (v 12) (v 13)))] [0, 1, 2, 3, 8, 14])
 (.cond (v 14) .skip (.exit 0)))
 (.seq (.block 1 (.seq (K [(J 17 8),(J 9 17)] [0, 1, 2, 3, 8, 9])
 (.block 2 (.loop [0, 1, 2, 3, 8, 9] f47_l0))))
 (.reg false [(J 15 8),(q 16 (.bin .add (v 15) (ci 1))),(J 8 16)] [0, 1, 2, 3, 8])))
def f47_c : VCode :=
 (.seq (K [(J 10 1),(q 11 (.bin .add (v 10) (ci 1))),(J 8 11)] [0, 1, 2, 3, 8])
 (.block 0 (.loop [0, 1, 2, 3, 8] f47_l1)))
def f47 : VFn := ⟨4, 53, f47_c, [], false, [0]⟩
/- slices.heapSortCmpFunc[caliper/api.Range] -/
def f48_l0 : VCode :=
 (.seq (.seq (K [(J 20 11),(q 21 (.bin .geq (v 20) (ci 0)))] [0, 3, 8, 9, 10, 11, 21])
 (.cond (v 21) .skip (.exit 0)))
 (.seq (.block 1 (.reg false [(J 24 0),(J 25 11),(J 26 10),(J 27 8),(J 28 3),(q 29 (.call (cf 70) [(v 24), (v 25), (v 26), (v 27), (v 28)]))] [0, 3, 8, 9, 10, 11]))
 (.reg false [(J 22 11),(q 23 (.bin .sub (v 22) (ci 1))),(J 11 23)] [0, 3, 8, 9, 10, 11])))
def f48_l1 : VCode :=
 (.seq (.seq (K [(J 32 12),(q 33 (.bin .geq (v 32) (ci 0)))] [0, 3, 8, 9, 12, 33])
 (.cond (v 33) .skip (.exit 2)))
 (.seq (.block 3 (.seq (B [(J 36 0),(J 37 8),(J 38 0),(J 39 8),(J 40 12),(q 41 (.bin .add (v 39) (v 40))),(J 42 0),(J 43 8),(J 44 12),(q 45 (.bin .add (v 43) (v 44))),(q 46 (.iaddr 2 (v 42) (v 45))),(q 47 (.load (some 2) (v 46))),(J 48 0),(J 49 8),(q 50 (.iaddr 2 (v 48) (v 49))),(q 51 (.load (some 2) (v 50))),(q 52 (.iaddr 2 (v 36) (v 37))),⟨none, .store true 2 (v 52) (v 47), none, []⟩,(q 53 (.iaddr 2 (v 38) (v 41))),⟨none, .store true 2 (v 53) (v 51), none, []⟩] [0, 3, 8, 9, 12])
 (.reg false [(J 54 0),(J 55 9),(J 56 12),(J 57 8),(J 58 3),(q 59 (.call (cf 70) [(v 54), (v 55), (v 56), (v 57), (v 58)]))] [0, 3, 8, 9, 12])))
 (.reg false [(J 34 12),(q 35 (.bin .sub (v 34) (ci 1))),(J 12 35)] [0, 3, 8, 9, 12])))
def f48_c : VCode :=
 (.seq (K [(J 13 1),(J 8 13)] [0, 1, 2, 3, 8])
 (.seq (K [(q 9 (.mov (ci 0)))] [0, 1, 2, 3, 8, 9])
 (.seq (K [(J 14 2),(J 15 1),(q 16 (.bin .sub (v 14) (v 15))),(J 10 16)] [0, 3, 8, 9, 10])
 (.seq (.seq (K [(J 17 10),(q 18 (.bin .sub (v 17) (ci 1))),(q 19 (.bin .quo (v 18) (ci 2))),(J 11 19)] [0, 3, 8, 9, 10, 11])
 (.block 0 (.loop [0, 3, 8, 9, 10, 11] f48_l0)))
 (.seq (K [(J 30 10),(q 31 (.bin .sub (v 30) (ci 1))),(J 12 31)] [0, 3, 8, 9, 12])
 (.block 2 (.loop [0, 3, 8, 9, 12] f48_l1)))))))
def f48 : VFn := ⟨4, 60, f48_c, [], false, [0]⟩
/- slices.breakPatternsCmpFunc[caliper/api.Range] -/
def f49_l0 : VCode :=
 (.seq (.seq (K [(J 28 11),(J 29 1),(J 30 8),(q 31 (.bin .quo (v 30) (ci 4))),(q 32 (.bin .mul (v 31) (ci 2))),(q 33 (.bin .add (v 29) (v 32))),(q 34 (.bin .add (v 33) (ci 1))),(q 35 (.bin .leq (v 28) (v 34)))] [0, 1, 8, 9, 10, 11, 35])
 (.cond (v 35) .skip (.exit 0)))
 (.seq (.block 1 (.seq (K [(q 38 (.call (cf 72) [(v 9)])),(J 39 10),(q 40 (.bin .sub (v 39) (.c (.int .u64 1)))),(q 41 (.bin .and (v 38) (v 40))),(q 42 (.conv (.toInt .i64) (v 41))),(J 12 42)] [0, 1, 8, 9, 10, 11, 12])
 (.seq (.seq (K [(J 43 12),(J 44 8),(q 45 (.bin .geq (v 43) (v 44)))] [0, 1, 8, 9, 10, 11, 12, 45])
 (.cond (v 45) (.reg false [(J 46 12),(J 47 8),(q 48 (.bin .sub (v 46) (v 47))),(J 12 48)] [0, 1, 8, 9, 10, 11, 12]) .skip))
 (.reg true [(J 49 0),(J 50 11),(J 51 0),(J 52 1),(J 53 12),(q 54 (.bin .add (v 52) (v 53))),(J 55 0),(J 56 1),(J 57 12),(q 58 (.bin .add (v 56) (v 57))),(q 59 (.iaddr 2 (v 55) (v 58))),(q 60 (.load (some 2) (v 59))),(J 61 0),(J 62 11),(q 63 (.iaddr 2 (v 61) (v 62))),(q 64 (.load (some 2) (v 63))),(q 65 (.iaddr 2 (v 49) (v 50))),⟨none, .store true 2 (v 65) (v 60), none, []⟩,(q 66 (.iaddr 2 (v 51) (v 54))),⟨none, .store true 2 (v 66) (v 64), none, []⟩] [0, 1, 8, 9, 10, 11]))))
 (.reg false [(J 36 11),(q 37 (.bin .add (v 36) (ci 1))),(J 11 37)] [0, 1, 8, 9, 10, 11])))
def f49_c : VCode :=
 (.seq (K [(J 13 2),(J 14 1),(q 15 (.bin .sub (v 13) (v 14))),(J 8 15)] [0, 1, 8])
 (.seq (K [(J 16 8),(q 17 (.bin .geq (v 16) (ci 8)))] [0, 1, 8, 17])
 (.cond (v 17) (.seq (K [(J 18 8),(q 19 (.conv (.toInt .u64) (v 18))),(q 9 (.alloc false [(.int .u64 0)])),⟨none, .store false 1 (v 9) (v 19), none, []⟩] [0, 1, 8, 9])
 (.seq (K [(J 20 8),(q 21 (.call (cf 71) [(v 20)])),(J 10 21)] [0, 1, 8, 9, 10])
 (.seq (K [(J 22 1),(J 23 8),(q 24 (.bin .quo (v 23) (ci 4))),(q 25 (.bin .mul (v 24) (ci 2))),(q 26 (.bin .add (v 22) (v 25))),(q 27 (.bin .sub (v 26) (ci 1))),(J 11 27)] [0, 1, 8, 9, 10, 11])
 (.block 0 (.loop [0, 1, 8, 9, 10, 11] f49_l0))))) .skip)))
def f49 : VFn := ⟨4, 67, f49_c, [], false, [0]⟩
/- slices.choosePivotCmpFunc[caliper/api.Range] -/
def f50_c : VCode :=
 (.seq (K [(q 8 (.mov (ci 0))),(q 9 (.mov (ci 0)))] [0, 1, 2, 3])
 (.seq (K [(J 15 2),(J 16 1),(q 17 (.bin .sub (v 15) (v 16))),(J 10 17)] [0, 1, 3, 10])
 (.seq (K [(q 11 (.alloc false [(.int .i64 0)]))] [0, 1, 3, 10, 11])
 (.seq (K [(J 18 1),(J 19 10),(q 20 (.bin .quo (v 19) (ci 4))),(q 21 (.bin .mul (v 20) (ci 1))),(q 22 (.bin .add (v 18) (v 21))),(J 12 22)] [0, 1, 3, 10, 11, 12])
 (.seq (K [(J 23 1),(J 24 10),(q 25 (.bin .quo (v 24) (ci 4))),(q 26 (.bin .mul (v 25) (ci 2))),(q 27 (.bin .add (v 23) (v 26))),(J 13 27)] [0, 1, 3, 10, 11, 12, 13])
 (.seq (K [(J 28 1),(J 29 10),(q 30 (.bin .quo (v 29) (ci 4))),(q 31 (.bin .mul (v 30) (ci 3))),(q 32 (.bin .add (v 28) (v 31))),(J 14 32)] [0, 3, 10, 11, 12, 13, 14])
 (.seq (.seq (K [(J 33 10),(q 34 (.bin .geq (v 33) (ci 8)))] [0, 3, 10, 11, 12, 13, 14, 34])
 (.cond (v 34) (.seq (.seq (K [(J 35 10),(q 36 (.bin .geq (v 35) (ci 50)))] [0, 3, 11, 12, 13, 14, 36])
 (.cond (v 36) (.seq (K [(J 37 0),(J 38 12),(J 39 3),(q 40 (.call (cf 73) [(v 37), (v 38), (v 11), (v 39)])),(J 12 40)] [0, 3, 11, 12, 13, 14])
 (.seq (K [(J 41 0),(J 42 13),(J 43 3),(q 44 (.call (cf 73) [(v 41), (v 42), (v 11), (v 43)])),(J 13 44)] [0, 3, 11, 12, 13, 14])
 (.reg false [(J 45 0),(J 46 14),(J 47 3),(q 48 (.call (cf 73) [(v 45), (v 46), (v 11), (v 47)])),(J 14 48)] [0, 3, 11, 12, 13, 14]))) .skip))
 (.reg false [(J 49 0),(J 50 12),(J 51 13),(J 52 14),(J 53 3),(q 54 (.call (cf 74) [(v 49), (v 50), (v 51), (v 52), (v 11), (v 53)])),(J 13 54)] [11, 13])) .skip))
 (.seq (K [(q 55 (.load none (v 11)))] [13, 55])
 (.block 0 (.seq (K [(q 58 (.bin .eql (v 55) (ci 0))),(J 57 58)] [13, 55, 57])
 (.cond (v 57) (.seq (K [(J 59 13),(J 8 59),(q 9 (.mov (ci 1)))] [8, 9])
 .ret) (.seq (K [(q 61 (.bin .eql (v 55) (ci 12))),(J 60 61)] [13, 60])
 (.cond (v 60) (.seq (K [(J 62 13),(J 8 62),(q 9 (.mov (ci 2)))] [8, 9])
 .ret) (.seq (K [(J 56 13),(J 8 56),(q 9 (.mov (ci 0)))] [8, 9])
 .ret))))))))))))))
def f50 : VFn := ⟨4, 63, f50_c, [.t 8, .t 9], false, [0]⟩
/- slices.reverseRangeCmpFunc[caliper/api.Range] -/
def f51_l0 : VCode :=
 (.seq (.seq (K [(J 13 8),(J 14 9),(q 15 (.bin .lss (v 13) (v 14)))] [0, 8, 9, 15])
 (.cond (v 15) .skip (.exit 0)))
 (.block 1 (.seq (B [(J 16 0),(J 17 8),(J 18 0),(J 19 9),(J 20 0),(J 21 9),(q 22 (.iaddr 2 (v 20) (v 21))),(q 23 (.load (some 2) (v 22))),(J 24 0),(J 25 8),(q 26 (.iaddr 2 (v 24) (v 25))),(q 27 (.load (some 2) (v 26))),(q 28 (.iaddr 2 (v 16) (v 17))),⟨none, .store true 2 (v 28) (v 23), none, []⟩,(q 29 (.iaddr 2 (v 18) (v 19))),⟨none, .store true 2 (v 29) (v 27), none, []⟩] [0, 8, 9])
 (.seq (K [(J 30 8),(q 31 (.bin .add (v 30) (ci 1))),(J 8 31)] [0, 8, 9])
 (.reg false [(J 32 9),(q 33 (.bin .sub (v 32) (ci 1))),(J 9 33)] [0, 8, 9])))))
def f51_c : VCode :=
 (.seq (K [(J 10 1),(J 8 10)] [0, 2, 8])
 (.seq (K [(J 11 2),(q 12 (.bin .sub (v 11) (ci 1))),(J 9 12)] [0, 8, 9])
 (.block 0 (.loop [0, 8, 9] f51_l0))))
def f51 : VFn := ⟨4, 34, f51_c, [], false, [0]⟩
/- slices.partialInsertionSortCmpFunc[caliper/api.Range] -/
def f52_l0 : VCode :=
 (.seq (.seq (B [(J 19 9),(J 20 2),(q 21 (.bin .lss (v 19) (v 20))),(J 22 21),(Z 23 3 22),(Z 24 0 22),(Z 25 9 22),(Y 26 (.iaddr 2 (v 24) (v 25)) 22),(Y 27 (.load (some 2) (v 26)) 22),(Z 28 0 22),(Z 29 9 22),(Y 30 (.bin .sub (v 29) (ci 1)) 22),(Y 31 (.iaddr 2 (v 28) (v 30)) 22),(Y 32 (.load (some 2) (v 31)) 22),(Y 33 (.call (v 23) [(v 27), (v 32)]) 22),(Y 34 (.bin .lss (v 33) (ci 0)) 22),(Y 35 (.un .not (v 34)) 22),(q 36 (.pick (v 22) (v 35) (.c (.bool false))))] [0, 1, 2, 3, 9, 10, 36])
 (.cond (v 36) .skip (.exit 2)))
 (.block 3 (.reg false [(J 37 9),(q 38 (.bin .add (v 37) (ci 1))),(J 9 38)] [0, 1, 2, 3, 9, 10])))
def f52_l1 : VCode :=
 (.seq (.seq (K [(J 68 11),(q 69 (.bin .geq (v 68) (ci 1)))] [0, 1, 2, 3, 9, 10, 11, 69])
 (.cond (v 69) .skip (.exit 4)))
 (.seq (.block 5 (.seq (.seq (B [(J 72 3),(J 73 0),(J 74 11),(q 75 (.iaddr 2 (v 73) (v 74))),(q 76 (.load (some 2) (v 75))),(J 77 0),(J 78 11),(q 79 (.bin .sub (v 78) (ci 1))),(q 80 (.iaddr 2 (v 77) (v 79))),(q 81 (.load (some 2) (v 80))),(q 82 (.call (v 72) [(v 76), (v 81)])),(q 83 (.bin .lss (v 82) (ci 0))),(q 84 (.un .not (v 83)))] [0, 1, 2, 3, 9, 10, 11, 84])
 (.cond (v 84) (.exit 4) .skip))
 (.reg true [(J 85 0),(J 86 11),(J 87 0),(J 88 11),(q 89 (.bin .sub (v 88) (ci 1))),(J 90 0),(J 91 11),(q 92 (.bin .sub (v 91) (ci 1))),(q 93 (.iaddr 2 (v 90) (v 92))),(q 94 (.load (some 2) (v 93))),(J 95 0),(J 96 11),(q 97 (.iaddr 2 (v 95) (v 96))),(q 98 (.load (some 2) (v 97))),(q 99 (.iaddr 2 (v 85) (v 86))),⟨none, .store true 2 (v 99) (v 94), none, []⟩,(q 100 (.iaddr 2 (v 87) (v 89))),⟨none, .store true 2 (v 100) (v 98), none, []⟩] [0, 1, 2, 3, 9, 10, 11])))
 (.reg false [(J 70 11),(q 71 (.bin .sub (v 70) (ci 1))),(J 11 71)] [0, 1, 2, 3, 9, 10, 11])))
def f52_l2 : VCode :=
 (.seq (.seq (K [(J 107 12),(J 108 2),(q 109 (.bin .lss (v 107) (v 108)))] [0, 1, 2, 3, 9, 10, 12, 109])
 (.cond (v 109) .skip (.exit 6)))
 (.seq (.block 7 (.seq (.seq (B [(J 112 3),(J 113 0),(J 114 12),(q 115 (.iaddr 2 (v 113) (v 114))),(q 116 (.load (some 2) (v 115))),(J 117 0),(J 118 12),(q 119 (.bin .sub (v 118) (ci 1))),(q 120 (.iaddr 2 (v 117) (v 119))),(q 121 (.load (some 2) (v 120))),(q 122 (.call (v 112) [(v 116), (v 121)])),(q 123 (.bin .lss (v 122) (ci 0))),(q 124 (.un .not (v 123)))] [0, 1, 2, 3, 9, 10, 12, 124])
 (.cond (v 124) (.exit 6) .skip))
 (.reg true [(J 125 0),(J 126 12),(J 127 0),(J 128 12),(q 129 (.bin .sub (v 128) (ci 1))),(J 130 0),(J 131 12),(q 132 (.bin .sub (v 131) (ci 1))),(q 133 (.iaddr 2 (v 130) (v 132))),(q 134 (.load (some 2) (v 133))),(J 135 0),(J 136 12),(q 137 (.iaddr 2 (v 135) (v 136))),(q 138 (.load (some 2) (v 137))),(q 139 (.iaddr 2 (v 125) (v 126))),⟨none, .store true 2 (v 139) (v 134), none, []⟩,(q 140 (.iaddr 2 (v 127) (v 129))),⟨none, .store true 2 (v 140) (v 138), none, []⟩] [0, 1, 2, 3, 9, 10, 12])))
 (.reg false [(J 110 12),(q 111 (.bin .add (v 110) (ci 1))),(J 12 111)] [0, 1, 2, 3, 9, 10, 12])))
def f52_l3 : VCode :=
 (.seq (.seq (K [(J 15 10),(q 16 (.bin .lss (v 15) (ci 5)))] [0, 1, 2, 3, 9, 10, 16])
 (.cond (v 16) .skip (.exit 0)))
 (.seq (.block 1 (.seq (.block 2 (.loop [0, 1, 2, 3, 9, 10] f52_l0))
 (.seq (.seq (K [(J 39 9),(J 40 2),(q 41 (.bin .eql (v 39) (v 40)))] [0, 1, 2, 3, 9, 10, 41])
 (.cond (v 41) (.seq (K [(q 8 (.mov (.c (.bool true))))] [8])
 .ret) .skip))
 (.seq (.seq (K [(J 42 2),(J 43 1),(q 44 (.bin .sub (v 42) (v 43))),(q 45 (.bin .lss (v 44) (ci 50)))] [0, 1, 2, 3, 9, 10, 45])
 (.cond (v 45) (.seq (K [(q 8 (.mov (.c (.bool false))))] [8])
 .ret) .skip))
 (.seq (B [(J 46 0),(J 47 9),(J 48 0),(J 49 9),(q 50 (.bin .sub (v 49) (ci 1))),(J 51 0),(J 52 9),(q 53 (.bin .sub (v 52) (ci 1))),(q 54 (.iaddr 2 (v 51) (v 53))),(q 55 (.load (some 2) (v 54))),(J 56 0),(J 57 9),(q 58 (.iaddr 2 (v 56) (v 57))),(q 59 (.load (some 2) (v 58))),(q 60 (.iaddr 2 (v 46) (v 47))),⟨none, .store true 2 (v 60) (v 55), none, []⟩,(q 61 (.iaddr 2 (v 48) (v 50))),⟨none, .store true 2 (v 61) (v 59), none, []⟩] [0, 1, 2, 3, 9, 10])
 (.seq (.seq (K [(J 62 9),(J 63 1),(q 64 (.bin .sub (v 62) (v 63))),(q 65 (.bin .geq (v 64) (ci 2)))] [0, 1, 2, 3, 9, 10, 65])
 (.cond (v 65) (.seq (K [(J 66 9),(q 67 (.bin .sub (v 66) (ci 1))),(J 11 67)] [0, 1, 2, 3, 9, 10, 11])
 (.block 4 (.loop [0, 1, 2, 3, 9, 10, 11] f52_l1))) .skip))
 (.seq (K [(J 101 2),(J 102 9),(q 103 (.bin .sub (v 101) (v 102))),(q 104 (.bin .geq (v 103) (ci 2)))] [0, 1, 2, 3, 9, 10, 104])
 (.cond (v 104) (.seq (K [(J 105 9),(q 106 (.bin .add (v 105) (ci 1))),(J 12 106)] [0, 1, 2, 3, 9, 10, 12])
 (.block 6 (.loop [0, 1, 2, 3, 9, 10, 12] f52_l2))) .skip))))))))
 (.reg false [(J 17 10),(q 18 (.bin .add (v 17) (ci 1))),(J 10 18)] [0, 1, 2, 3, 9, 10])))
def f52_c : VCode :=
 (.seq (K [(q 8 (.mov (.c (.bool false))))] [0, 1, 2, 3])
 (.seq (K [(J 13 1),(q 14 (.bin .add (v 13) (ci 1))),(J 9 14)] [0, 1, 2, 3, 9])
 (.seq (.seq (K [(q 10 (.mov (ci 0)))] [0, 1, 2, 3, 9, 10])
 (.block 0 (.loop [0, 1, 2, 3, 9, 10] f52_l3)))
 (.seq (K [(q 8 (.mov (.c (.bool false))))] [8])
 .ret))))
def f52 : VFn := ⟨4, 141, f52_c, [.t 8], false, [0]⟩
/- slices.partitionEqualCmpFunc[caliper/api.Range] -/
def f53_l0 : VCode :=
 (.seq (.seq (B [(J 31 11),(J 32 12),(q 33 (.bin .leq (v 31) (v 32))),(J 34 33),(Z 35 4 34),(Z 36 0 34),(Z 37 1 34),(Y 38 (.iaddr 2 (v 36) (v 37)) 34),(Y 39 (.load (some 2) (v 38)) 34),(Z 40 0 34),(Z 41 11 34),(Y 42 (.iaddr 2 (v 40) (v 41)) 34),(Y 43 (.load (some 2) (v 42)) 34),(Y 44 (.call (v 35) [(v 39), (v 43)]) 34),(Y 45 (.bin .lss (v 44) (ci 0)) 34),(Y 46 (.un .not (v 45)) 34),(q 47 (.pick (v 34) (v 46) (.c (.bool false))))] [0, 1, 4, 11, 12, 47])
 (.cond (v 47) .skip (.exit 2)))
 (.block 3 (.reg false [(J 48 11),(q 49 (.bin .add (v 48) (ci 1))),(J 11 49)] [0, 1, 4, 11, 12])))
def f53_l1 : VCode :=
 (.seq (.seq (B [(J 50 11),(J 51 12),(q 52 (.bin .leq (v 50) (v 51))),(J 53 52),(Z 54 4 53),(Z 55 0 53),(Z 56 1 53),(Y 57 (.iaddr 2 (v 55) (v 56)) 53),(Y 58 (.load (some 2) (v 57)) 53),(Z 59 0 53),(Z 60 12 53),(Y 61 (.iaddr 2 (v 59) (v 60)) 53),(Y 62 (.load (some 2) (v 61)) 53),(Y 63 (.call (v 54) [(v 58), (v 62)]) 53),(Y 64 (.bin .lss (v 63) (ci 0)) 53),(q 65 (.pick (v 53) (v 64) (.c (.bool false))))] [0, 1, 4, 11, 12, 65])
 (.cond (v 65) .skip (.exit 4)))
 (.block 5 (.reg false [(J 66 12),(q 67 (.bin .sub (v 66) (ci 1))),(J 12 67)] [0, 1, 4, 11, 12])))
def f53_l2 : VCode :=
 (.block 1 (.seq (.block 2 (.loop [0, 1, 4, 11, 12] f53_l0))
 (.seq (.block 4 (.loop [0, 1, 4, 11, 12] f53_l1))
 (.seq (.seq (K [(J 68 11),(J 69 12),(q 70 (.bin .gtr (v 68) (v 69)))] [0, 1, 4, 11, 12, 70])
 (.cond (v 70) (.exit 0) .skip))
 (.seq (B [(J 71 0),(J 72 11),(J 73 0),(J 74 12),(J 75 0),(J 76 12),(q 77 (.iaddr 2 (v 75) (v 76))),(q 78 (.load (some 2) (v 77))),(J 79 0),(J 80 11),(q 81 (.iaddr 2 (v 79) (v 80))),(q 82 (.load (some 2) (v 81))),(q 83 (.iaddr 2 (v 71) (v 72))),⟨none, .store true 2 (v 83) (v 78), none, []⟩,(q 84 (.iaddr 2 (v 73) (v 74))),⟨none, .store true 2 (v 84) (v 82), none, []⟩] [0, 1, 4, 11, 12])
 (.seq (K [(J 85 11),(q 86 (.bin .add (v 85) (ci 1))),(J 11 86)] [0, 1, 4, 11, 12])
 (.reg false [(J 87 12),(q 88 (.bin .sub (v 87) (ci 1))),(J 12 88)] [0, 1, 4, 11, 12])))))))
def f53_c : VCode :=
 (.seq (K [(q 10 (.mov (ci 0)))] [0, 1, 2, 3, 4])
 (.seq (B [(J 13 0),(J 14 1),(J 15 0),(J 16 3),(J 17 0),(J 18 3),(q 19 (.iaddr 2 (v 17) (v 18))),(q 20 (.load (some 2) (v 19))),(J 21 0),(J 22 1),(q 23 (.iaddr 2 (v 21) (v 22))),(q 24 (.load (some 2) (v 23))),(q 25 (.iaddr 2 (v 13) (v 14))),⟨none, .store true 2 (v 25) (v 20), none, []⟩,(q 26 (.iaddr 2 (v 15) (v 16))),⟨none, .store true 2 (v 26) (v 24), none, []⟩] [0, 1, 2, 4])
 (.seq (K [(J 27 1),(q 28 (.bin .add (v 27) (ci 1))),(J 29 2),(q 30 (.bin .sub (v 29) (ci 1))),(J 11 28),(J 12 30)] [0, 1, 4, 11, 12])
 (.seq (.block 0 (.loop [0, 1, 4, 11, 12] f53_l2))
 (.seq (K [(J 89 11),(J 10 89)] [10])
 .ret)))))
def f53 : VFn := ⟨5, 90, f53_c, [.t 10], false, [0]⟩
/- slices.partitionCmpFunc[caliper/api.Range] -/
def f54_l0 : VCode :=
 (.seq (.seq (B [(J 32 12),(J 33 13),(q 34 (.bin .leq (v 32) (v 33))),(J 35 34),(Z 36 4 35),(Z 37 0 35),(Z 38 12 35),(Y 39 (.iaddr 2 (v 37) (v 38)) 35),(Y 40 (.load (some 2) (v 39)) 35),(Z 41 0 35),(Z 42 1 35),(Y 43 (.iaddr 2 (v 41) (v 42)) 35),(Y 44 (.load (some 2) (v 43)) 35),(Y 45 (.call (v 36) [(v 40), (v 44)]) 35),(Y 46 (.bin .lss (v 45) (ci 0)) 35),(q 47 (.pick (v 35) (v 46) (.c (.bool false))))] [0, 1, 4, 12, 13, 47])
 (.cond (v 47) .skip (.exit 0)))
 (.block 1 (.reg false [(J 48 12),(q 49 (.bin .add (v 48) (ci 1))),(J 12 49)] [0, 1, 4, 12, 13])))
def f54_l1 : VCode :=
 (.seq (.seq (B [(J 50 12),(J 51 13),(q 52 (.bin .leq (v 50) (v 51))),(J 53 52),(Z 54 4 53),(Z 55 0 53),(Z 56 13 53),(Y 57 (.iaddr 2 (v 55) (v 56)) 53),(Y 58 (.load (some 2) (v 57)) 53),(Z 59 0 53),(Z 60 1 53),(Y 61 (.iaddr 2 (v 59) (v 60)) 53),(Y 62 (.load (some 2) (v 61)) 53),(Y 63 (.call (v 54) [(v 58), (v 62)]) 53),(Y 64 (.bin .lss (v 63) (ci 0)) 53),(Y 65 (.un .not (v 64)) 53),(q 66 (.pick (v 53) (v 65) (.c (.bool false))))] [0, 1, 4, 12, 13, 66])
 (.cond (v 66) .skip (.exit 2)))
 (.block 3 (.reg false [(J 67 13),(q 68 (.bin .sub (v 67) (ci 1))),(J 13 68)] [0, 1, 4, 12, 13])))
def f54_l2 : VCode :=
 (.seq (.seq (B [(J 105 12),(J 106 13),(q 107 (.bin .leq (v 105) (v 106))),(J 108 107),(Z 109 4 108),(Z 110 0 108),(Z 111 12 108),(Y 112 (.iaddr 2 (v 110) (v 111)) 108),(Y 113 (.load (some 2) (v 112)) 108),(Z 114 0 108),(Z 115 1 108),(Y 116 (.iaddr 2 (v 114) (v 115)) 108),(Y 117 (.load (some 2) (v 116)) 108),(Y 118 (.call (v 109) [(v 113), (v 117)]) 108),(Y 119 (.bin .lss (v 118) (ci 0)) 108),(q 120 (.pick (v 108) (v 119) (.c (.bool false))))] [0, 1, 4, 12, 13, 120])
 (.cond (v 120) .skip (.exit 6)))
 (.block 7 (.reg false [(J 121 12),(q 122 (.bin .add (v 121) (ci 1))),(J 12 122)] [0, 1, 4, 12, 13])))
def f54_l3 : VCode :=
 (.seq (.seq (B [(J 123 12),(J 124 13),(q 125 (.bin .leq (v 123) (v 124))),(J 126 125),(Z 127 4 126),(Z 128 0 126),(Z 129 13 126),(Y 130 (.iaddr 2 (v 128) (v 129)) 126),(Y 131 (.load (some 2) (v 130)) 126),(Z 132 0 126),(Z 133 1 126),(Y 134 (.iaddr 2 (v 132) (v 133)) 126),(Y 135 (.load (some 2) (v 134)) 126),(Y 136 (.call (v 127) [(v 131), (v 135)]) 126),(Y 137 (.bin .lss (v 136) (ci 0)) 126),(Y 138 (.un .not (v 137)) 126),(q 139 (.pick (v 126) (v 138) (.c (.bool false))))] [0, 1, 4, 12, 13, 139])
 (.cond (v 139) .skip (.exit 8)))
 (.block 9 (.reg false [(J 140 13),(q 141 (.bin .sub (v 140) (ci 1))),(J 13 141)] [0, 1, 4, 12, 13])))
def f54_l4 : VCode :=
 (.block 5 (.seq (.block 6 (.loop [0, 1, 4, 12, 13] f54_l2))
 (.seq (.block 8 (.loop [0, 1, 4, 12, 13] f54_l3))
 (.seq (.seq (K [(J 142 12),(J 143 13),(q 144 (.bin .gtr (v 142) (v 143)))] [0, 1, 4, 12, 13, 144])
 (.cond (v 144) (.exit 4) .skip))
 (.seq (B [(J 145 0),(J 146 12),(J 147 0),(J 148 13),(J 149 0),(J 150 13),(q 151 (.iaddr 2 (v 149) (v 150))),(q 152 (.load (some 2) (v 151))),(J 153 0),(J 154 12),(q 155 (.iaddr 2 (v 153) (v 154))),(q 156 (.load (some 2) (v 155))),(q 157 (.iaddr 2 (v 145) (v 146))),⟨none, .store true 2 (v 157) (v 152), none, []⟩,(q 158 (.iaddr 2 (v 147) (v 148))),⟨none, .store true 2 (v 158) (v 156), none, []⟩] [0, 1, 4, 12, 13])
 (.seq (K [(J 159 12),(q 160 (.bin .add (v 159) (ci 1))),(J 12 160)] [0, 1, 4, 12, 13])
 (.reg false [(J 161 13),(q 162 (.bin .sub (v 161) (ci 1))),(J 13 162)] [0, 1, 4, 12, 13])))))))
def f54_c : VCode :=
 (.seq (K [(q 10 (.mov (ci 0))),(q 11 (.mov (.c (.bool false))))] [0, 1, 2, 3, 4])
 (.seq (B [(J 14 0),(J 15 1),(J 16 0),(J 17 3),(J 18 0),(J 19 3),(q 20 (.iaddr 2 (v 18) (v 19))),(q 21 (.load (some 2) (v 20))),(J 22 0),(J 23 1),(q 24 (.iaddr 2 (v 22) (v 23))),(q 25 (.load (some 2) (v 24))),(q 26 (.iaddr 2 (v 14) (v 15))),⟨none, .store true 2 (v 26) (v 21), none, []⟩,(q 27 (.iaddr 2 (v 16) (v 17))),⟨none, .store true 2 (v 27) (v 25), none, []⟩] [0, 1, 2, 4])
 (.seq (K [(J 28 1),(q 29 (.bin .add (v 28) (ci 1))),(J 30 2),(q 31 (.bin .sub (v 30) (ci 1))),(J 12 29),(J 13 31)] [0, 1, 4, 12, 13])
 (.seq (.block 0 (.loop [0, 1, 4, 12, 13] f54_l0))
 (.seq (.block 2 (.loop [0, 1, 4, 12, 13] f54_l1))
 (.seq (.seq (K [(J 69 12),(J 70 13),(q 71 (.bin .gtr (v 69) (v 70)))] [0, 1, 4, 12, 13, 71])
 (.cond (v 71) (.seq (B [(J 72 0),(J 73 13),(J 74 0),(J 75 1),(J 76 0),(J 77 1),(q 78 (.iaddr 2 (v 76) (v 77))),(q 79 (.load (some 2) (v 78))),(J 80 0),(J 81 13),(q 82 (.iaddr 2 (v 80) (v 81))),(q 83 (.load (some 2) (v 82))),(q 84 (.iaddr 2 (v 72) (v 73))),⟨none, .store true 2 (v 84) (v 79), none, []⟩,(q 85 (.iaddr 2 (v 74) (v 75))),⟨none, .store true 2 (v 85) (v 83), none, []⟩] [13])
 (.seq (K [(J 86 13),(J 10 86),(q 11 (.mov (.c (.bool true))))] [10, 11])
 .ret)) .skip))
 (.seq (B [(J 87 0),(J 88 12),(J 89 0),(J 90 13),(J 91 0),(J 92 13),(q 93 (.iaddr 2 (v 91) (v 92))),(q 94 (.load (some 2) (v 93))),(J 95 0),(J 96 12),(q 97 (.iaddr 2 (v 95) (v 96))),(q 98 (.load (some 2) (v 97))),(q 99 (.iaddr 2 (v 87) (v 88))),⟨none, .store true 2 (v 99) (v 94), none, []⟩,(q 100 (.iaddr 2 (v 89) (v 90))),⟨none, .store true 2 (v 100) (v 98), none, []⟩] [0, 1, 4, 12, 13])
 (.seq (K [(J 101 12),(q 102 (.bin .add (v 101) (ci 1))),(J 12 102)] [0, 1, 4, 12, 13])
 (.seq (K [(J 103 13),(q 104 (.bin .sub (v 103) (ci 1))),(J 13 104)] [0, 1, 4, 12, 13])
 (.seq (.block 4 (.loop [0, 1, 4, 12, 13] f54_l4))
 (.seq (B [(J 163 0),(J 164 13),(J 165 0),(J 166 1),(J 167 0),(J 168 1),(q 169 (.iaddr 2 (v 167) (v 168))),(q 170 (.load (some 2) (v 169))),(J 171 0),(J 172 13),(q 173 (.iaddr 2 (v 171) (v 172))),(q 174 (.load (some 2) (v 173))),(q 175 (.iaddr 2 (v 163) (v 164))),⟨none, .store true 2 (v 175) (v 170), none, []⟩,(q 176 (.iaddr 2 (v 165) (v 166))),⟨none, .store true 2 (v 176) (v 174), none, []⟩] [13])
 (.seq (K [(J 177 13),(J 10 177),(q 11 (.mov (.c (.bool false))))] [10, 11])
 .ret))))))))))))
def f54 : VFn := ⟨5, 178, f54_c, [.t 10, .t 11], false, [0]⟩
/- math/bits.Len32 -/
def f55_c : VCode :=
 (.seq (K [(q 2 (.mov (ci 0)))] [0, 2])
 (.seq (.seq (K [(J 3 0),(q 4 (.bin .geq (v 3) (.c (.int .u32 65536))))] [0, 2, 4])
 (.cond (v 4) (.seq (K [(J 5 0),(q 6 (.bin .shr (v 5) (.c (.int .u64 16)))),(J 0 6)] [0])
 (.reg false [(q 2 (.mov (ci 16)))] [0, 2])) .skip))
 (.seq (.seq (K [(J 7 0),(q 8 (.bin .geq (v 7) (.c (.int .u32 256))))] [0, 2, 8])
 (.cond (v 8) (.seq (K [(J 9 0),(q 10 (.bin .shr (v 9) (.c (.int .u64 8)))),(J 0 10)] [0, 2])
 (.reg false [(J 11 2),(q 12 (.bin .add (v 11) (ci 8))),(J 2 12)] [0, 2])) .skip))
 (.seq (K [(J 13 2),(J 14 0),(q 15 (.conv (.toInt .u8) (v 14))),(q 16 (.idxs (.c (.str ⟨#[0, 1, 2, 2, 3, 3, 3, 3, 4, 4, 4, 4, 4, 4, 4, 4, 5, 5, 5, 5, 5, 5, 5, 5, 5, 5, 5, 5, 5, 5, 5, 5, 6, 6, 6, 6, 6, 6, 6, 6, 6, 6, 6, 6, 6, 6, 6, 6, 6, 6, 6, 6, 6, 6, 6, 6, 6, 6, 6, 6, 6, 6, 6, 6, 7, 7, 7, 7, 7, 7, 7, 7, 7, 7, 7, 7, 7, 7, 7, 7, 7, 7, 7, 7, 7, 7, 7, 7, 7, 7, 7, 7, 7, 7, 7, 7, 7, 7, 7, 7, 7, 7, 7, 7, 7, 7, 7, 7, 7, 7, 7, 7, 7, 7, 7, 7, 7, 7, 7, 7, 7, 7, 7, 7, 7, 7, 7, 7, 8, 8, 8, 8, 8, 8, 8, 8, 8, 8, 8, 8, 8, 8, 8, 8, 8, 8, 8, 8, 8, 8, 8, 8, 8, 8, 8, 8, 8, 8, 8, 8, 8, 8, 8, 8, 8, 8, 8, 8, 8, 8, 8, 8, 8, 8, 8, 8, 8, 8, 8, 8, 8, 8, 8, 8, 8, 8, 8, 8, 8, 8, 8, 8, 8, 8, 8, 8, 8, 8, 8, 8, 8, 8, 8, 8, 8, 8, 8, 8, 8, 8, 8, 8, 8, 8, 8, 8, 8, 8, 8, 8, 8, 8, 8, 8, 8, 8, 8, 8, 8, 8, 8, 8, 8, 8, 8, 8, 8, 8, 8, 8, 8, 8, 8, 8, 8, 8, 8, 8, 8, 8, 8, 8, 8, 8, 8, 8]⟩)) (v 15))),(q 17 (.conv (.toInt .i64) (v 16))),(q 18 (.bin .add (v 13) (v 17))),(J 2 18)] [2])
 .ret))))
def f55 : VFn := ⟨1, 19, f55_c, [.t 2], true, []⟩
/- math/bits.Len64 -/
def f56_c : VCode :=
 (.seq (K [(q 2 (.mov (ci 0)))] [0, 2])
 (.seq (.seq (K [(J 3 0),(q 4 (.bin .geq (v 3) (.c (.int .u64 4294967296))))] [0, 2, 4])
 (.cond (v 4) (.seq (K [(J 5 0),(q 6 (.bin .shr (v 5) (.c (.int .u64 32)))),(J 0 6)] [0])
 (.reg false [(q 2 (.mov (ci 32)))] [0, 2])) .skip))
 (.seq (.seq (K [(J 7 0),(q 8 (.bin .geq (v 7) (.c (.int .u64 65536))))] [0, 2, 8])
 (.cond (v 8) (.seq (K [(J 9 0),(q 10 (.bin .shr (v 9) (.c (.int .u64 16)))),(J 0 10)] [0, 2])
 (.reg false [(J 11 2),(q 12 (.bin .add (v 11) (ci 16))),(J 2 12)] [0, 2])) .skip))
 (.seq (.seq (K [(J 13 0),(q 14 (.bin .geq (v 13) (.c (.int .u64 256))))] [0, 2, 14])
 (.cond (v 14) (.seq (K [(J 15 0),(q 16 (.bin .shr (v 15) (.c (.int .u64 8)))),(J 0 16)] [0, 2])
 (.reg false [(J 17 2),(q 18 (.bin .add (v 17) (ci 8))),(J 2 18)] [0, 2])) .skip))
 (.seq (K [(J 19 2),(J 20 0),(q 21 (.conv (.toInt .u8) (v 20))),(q 22 (.idxs (.c (.str ⟨#[0, 1, 2, 2, 3, 3, 3, 3, 4, 4, 4, 4, 4, 4, 4, 4, 5, 5, 5, 5, 5, 5, 5, 5, 5, 5, 5, 5, 5, 5, 5, 5, 6, 6, 6, 6, 6, 6, 6, 6, 6, 6, 6, 6, 6, 6, 6, 6, 6, 6, 6, 6, 6, 6, 6, 6, 6, 6, 6, 6, 6, 6, 6, 6, 7, 7, 7, 7, 7, 7, 7, 7, 7, 7, 7, 7, 7, 7, 7, 7, 7, 7, 7, 7, 7, 7, 7, 7, 7, 7, 7, 7, 7, 7, 7, 7, 7, 7, 7, 7, 7, 7, 7, 7, 7, 7, 7, 7, 7, 7, 7, 7, 7, 7, 7, 7, 7, 7, 7, 7, 7, 7, 7, 7, 7, 7, 7, 7, 8, 8, 8, 8, 8, 8, 8, 8, 8, 8, 8, 8, 8, 8, 8, 8, 8, 8, 8, 8, 8, 8, 8, 8, 8, 8, 8, 8, 8, 8, 8, 8, 8, 8, 8, 8, 8, 8, 8, 8, 8, 8, 8, 8, 8, 8, 8, 8, 8, 8, 8, 8, 8, 8, 8, 8, 8, 8, 8, 8, 8, 8, 8, 8, 8, 8, 8, 8, 8, 8, 8, 8, 8, 8, 8, 8, 8, 8, 8, 8, 8, 8, 8, 8, 8, 8, 8, 8, 8, 8, 8, 8, 8, 8, 8, 8, 8, 8, 8, 8, 8, 8, 8, 8, 8, 8, 8, 8, 8, 8, 8, 8, 8, 8, 8, 8, 8, 8, 8, 8, 8, 8, 8, 8, 8, 8, 8, 8]⟩)) (v 21))),(q 23 (.conv (.toInt .i64) (v 22))),(q 24 (.bin .add (v 19) (v 23))),(J 2 24)] [2])
 .ret)))))
def f56 : VFn := ⟨1, 25, f56_c, [.t 2], true, []⟩
/- (*caliper/nfa.builder).fork$1 -/
def f57_c : VCode :=
 (.reg true [(q 2 (.load none (v 0))),(q 3 (.nilck (v 2))),(q 4 (.faddr 0 (v 3))),(q 5 (.load none (v 4))),(q 6 (.load none (v 1))),(q 7 (.load none (v 0))),(q 8 (.nilck (v 7))),(q 9 (.faddr 0 (v 8))),(q 10 (.load none (v 9))),(q 11 (.len (v 10))),(q 12 (.iaddr 4 (v 5) (v 6))),(q 13 (.faddr 3 (v 12))),⟨none, .store false 1 (v 13) (v 11), none, []⟩] [])
def f57 : VFn := ⟨2, 14, f57_c, [], true, []⟩
/- (*caliper/nfa.builder).jump$1 -/
def f58_c : VCode :=
 (.reg true [(q 4 (.load none (v 1))),(q 5 (.nilck (v 4))),(q 6 (.faddr 0 (v 5))),(q 7 (.load none (v 6))),(q 8 (.load none (v 2))),(q 9 (.load none (v 1))),(q 10 (.nilck (v 9))),(q 11 (.faddr 0 (v 10))),(q 12 (.load none (v 11))),(q 13 (.load none (v 2))),(J 14 0),(J 15 0),(q 16 (.iaddr 4 (v 7) (v 8))),(q 17 (.faddr 2 (v 16))),⟨none, .store false 1 (v 17) (v 14), none, [2]⟩,(q 18 (.iaddr 4 (v 12) (v 13))),(q 19 (.faddr 3 (v 18))),⟨none, .store false 1 (v 19) (v 15), none, []⟩] [])
def f58 : VFn := ⟨3, 20, f58_c, [], true, []⟩
/- slices.ContainsFunc[[]caliper/api.State,caliper/api.State] -/
def f59_c : VCode :=
 (.seq (K [(q 4 (.mov (.c (.bool false))))] [0, 1])
 (.seq (K [(J 5 0),(J 6 1),(q 7 (.call (cf 75) [(v 5), (v 6)])),(q 8 (.bin .geq (v 7) (ci 0))),(J 4 8)] [4])
 .ret))
def f59 : VFn := ⟨2, 9, f59_c, [.t 4], true, []⟩
/- caliper/nfa.Check$1 -/
def f60_c : VCode :=
 (.seq (K [(q 2 (.box true 4 (v 0))),(q 3 (.mov (.c (.bool false))))] [1, 2])
 (.seq (K [(q 4 (.load (some 4) (v 2))),(q 5 (.load none (v 1))),(q 6 (.len (v 5))),(q 7 (.call (cf 61) [(v 4), (v 6)])),(q 8 (.un .not (v 7))),(J 3 8)] [3])
 .ret))
def f60 : VFn := ⟨2, 9, f60_c, [.t 3], true, []⟩
/- caliper/nfa.state -/
def f61_c : VCode :=
 (.seq (K [(q 2 (.box true 4 (v 0))),(q 3 (.box false 1 (v 1))),(q 4 (.mov (.c (.bool false))))] [2, 3])
 (.seq (.seq (K [(q 6 (.mkfunc (.func 76) [] [(v 3)])),(J 5 6)] [2, 5])
 (.frz 5))
 (.seq (B [(q 7 (.faddr 0 (v 2))),(q 8 (.load none (v 7))),(q 9 (.bin .geq (v 8) (ci 1))),(J 10 9),(Y 11 (.faddr 0 (v 2)) 10),(Y 12 (.load none (v 11)) 10),(Y 13 (.bin .leq (v 12) (ci 7)) 10),(q 14 (.pick (v 10) (v 13) (.c (.bool false)))),(J 15 14),(Z 16 5 15),(Y 17 (.faddr 2 (v 2)) 15),(Y 18 (.load none (v 17)) 15),(Y 19 (.faddr 0 (v 2)) 15),(Y 20 (.load none (v 19)) 15),(Y 21 (.bin .neq (v 20) (ci 7)) 15),(Y 22 (.call (v 16) [(v 18), (v 21)]) 15),(q 23 (.pick (v 15) (v 22) (.c (.bool false)))),(J 24 23),(Z 25 5 24),(Y 26 (.faddr 3 (v 2)) 24),(Y 27 (.load none (v 26)) 24),(Y 28 (.faddr 0 (v 2)) 24),(Y 29 (.load none (v 28)) 24),(Y 30 (.bin .eql (v 29) (ci 2)) 24),(Y 31 (.call (v 25) [(v 27), (v 30)]) 24),(q 32 (.pick (v 24) (v 31) (.c (.bool false)))),(J 33 32),(Y 34 (.faddr 0 (v 2)) 33),(Y 35 (.load none (v 34)) 33),(Y 36 (.bin .eql (v 35) (ci 1)) 33),(Z 37 36 33),⟨(some 38), .faddr 1 (v 2), (some (37, false)), []⟩,⟨(some 39), .load none (v 38), (some (37, false)), []⟩,⟨(some 40), .len (v 39), (some (37, false)), []⟩,⟨(some 41), .bin .eql (v 40) (ci 0), (some (37, false)), []⟩,(Y 42 (.pick (v 37) (.c (.bool true)) (v 41)) 33),(q 43 (.pick (v 33) (v 42) (.c (.bool false)))),(J 44 43),(Y 45 (.faddr 1 (v 2)) 44),(Y 46 (.load none (v 45)) 44),(Y 47 (.call (cf 7) [(v 46)]) 44),(Y 48 (.faddr 1 (v 2)) 44),(Y 49 (.load none (v 48)) 44),(Y 50 (.call (cf 77) [(v 47), (v 49)]) 44),(q 51 (.pick (v 44) (v 50) (.c (.bool false)))),(J 4 51)] [4])
 .ret)))
def f61 : VFn := ⟨2, 52, f61_c, [.t 4], true, []⟩
/- caliper/utf.Good -/
def f62_l0 : VCode :=
 (.seq (K [(q 12 (.bin .lss (v 11) (v 10)))] [0, 4, 5, 6, 9, 10, 11, 12])
 (.seq (.cond (v 12) .skip (.exit 0))
 (.seq (.block 1 (.seq (K [(J 13 11),(q 14 (.iaddr 1 (v 9) (v 11))),(q 15 (.load none (v 14))),(J 7 13),(J 8 15)] [0, 4, 5, 6, 7, 8, 9, 10, 11])
 (.seq (.seq (K [(J 16 4),(q 17 (.bin .eql (v 16) (ci 0)))] [0, 4, 5, 6, 7, 8, 9, 10, 11, 17])
 (.cond (v 17) (.seq (K [(J 19 8),(q 20 (.call (cf 78) [(v 19)])),(J 18 20),(q 21 (.extract (v 18) 0)),(q 22 (.extract (v 18) 1)),(q 23 (.extract (v 18) 2)),(J 4 21),(J 5 22),(J 6 23)] [0, 4, 5, 6, 7, 9, 10, 11])
 (.seq (.seq (K [(J 24 4),(q 25 (.bin .lss (v 24) (ci 0)))] [0, 4, 5, 6, 7, 9, 10, 11, 25])
 (.cond (v 25) (.seq (K [(J 26 7),(J 2 26),(q 3 (.mov (.c (.bool false))))] [2, 3])
 .ret) .skip))
 (.exit 1))) .skip))
 (.seq (.seq (K [(J 27 8),(J 28 5),(q 29 (.bin .lss (v 27) (v 28))),(J 30 29),⟨(some 31), .mov (v 8), (some (30, false)), []⟩,⟨(some 32), .mov (v 6), (some (30, false)), []⟩,⟨(some 33), .bin .gtr (v 31) (v 32), (some (30, false)), []⟩,(q 34 (.pick (v 30) (.c (.bool true)) (v 33)))] [0, 4, 7, 9, 10, 11, 34])
 (.cond (v 34) (.seq (K [(J 35 7),(J 2 35),(q 3 (.mov (.c (.bool false))))] [2, 3])
 .ret) .skip))
 (.seq (K [(J 36 4),(q 37 (.bin .sub (v 36) (ci 1))),(J 4 37)] [0, 4, 9, 10, 11])
 (.reg false [(q 5 (.mov (.c (.int .u8 128)))),(q 6 (.mov (.c (.int .u8 191))))] [0, 4, 5, 6, 9, 10, 11]))))))
 (.reg false [(q 38 (.bin .add (v 11) (ci 1))),(J 11 38)] [0, 4, 5, 6, 9, 10, 11]))))
def f62_c : VCode :=
 (.seq (K [(q 2 (.mov (ci 0))),(q 3 (.mov (.c (.bool false))))] [0])
 (.seq (K [(q 4 (.mov (ci 0)))] [0, 4])
 (.seq (K [(q 5 (.mov (.c (.int .u8 128)))),(q 6 (.mov (.c (.int .u8 191))))] [0, 4, 5, 6])
 (.seq (.seq (K [(J 9 0),(q 10 (.len (v 9))),(q 11 (.mov (ci 0)))] [0, 4, 5, 6, 9, 10, 11])
 (.block 0 (.loop [0, 4, 5, 6, 9, 10, 11] f62_l0)))
 (.seq (K [(J 39 0),(q 40 (.len (v 39))),(J 41 4),(q 42 (.bin .eql (v 41) (ci 0))),(J 2 40),(J 3 42)] [2, 3])
 .ret)))))
def f62 : VFn := ⟨1, 43, f62_c, [.t 2, .t 3], true, []⟩
/- (*caliper/pike.run).lets -/
def f63_c : VCode :=
 (.seq (K [(q 6 (.mov (.c (.bool false))))] [0, 1, 2])
 (.seq (.seq (K [(J 7 1)] [0, 2, 7])
 (.block 0 (.seq (K [(q 9 (.bin .eql (v 7) (ci 2))),(J 8 9)] [0, 2, 7, 8])
 (.cond (v 8) (.seq (K [(q 6 (.mov (.c (.bool true))))] [6])
 .ret) (.seq (K [(q 11 (.bin .eql (v 7) (ci 3))),(J 10 11)] [0, 2, 7, 10])
 (.cond (v 10) (.seq (K [(J 12 2),(q 13 (.bin .eql (v 12) (ci 0))),(J 6 13)] [6])
 .ret) (.seq (K [(q 15 (.bin .eql (v 7) (ci 4))),(J 14 15)] [0, 2, 7, 14])
 (.cond (v 14) (.seq (K [(J 16 2),(J 17 0),(q 18 (.nilck (v 17))),(q 19 (.faddr 1 (v 18))),(q 20 (.load none (v 19))),(q 21 (.len (v 20))),(q 22 (.bin .eql (v 16) (v 21))),(J 6 22)] [6])
 .ret) (.seq (K [(q 24 (.bin .eql (v 7) (ci 5))),(J 23 24)] [0, 2, 7, 23])
 (.cond (v 23) (.seq (K [(J 25 0),(J 26 2),(q 27 (.call (cf 79) [(v 25), (v 26)])),(J 6 27)] [6])
 .ret) (.seq (K [(q 29 (.bin .eql (v 7) (ci 6))),(J 28 29)] [0, 2, 28])
 (.cond (v 28) (.seq (K [(J 30 0),(J 31 2),(q 32 (.call (cf 79) [(v 30), (v 31)])),(q 33 (.un .not (v 32))),(J 6 33)] [6])
 .ret) .skip))))))))))))
 (.seq (K [(q 6 (.mov (.c (.bool false))))] [6])
 .ret)))
def f63 : VFn := ⟨3, 34, f63_c, [.t 6], true, []⟩
/- (*caliper/rx.reader).row -/
def f64_l0 : VCode :=
 (.seq (.seq (K [(J 4 0),(q 5 (.nilck (v 4))),(q 6 (.faddr 0 (v 5))),(q 7 (.load none (v 6))),(q 8 (.len (v 7))),(q 9 (.bin .gtr (v 8) (ci 0))),(J 10 9),(Z 11 0 10),(Y 12 (.call (cf 81) [(v 11)]) 10),(Y 13 (.call (cf 80) [(v 12), (.c (.str ⟨#[124, 41]⟩))]) 10),(Y 14 (.un .not (v 13)) 10),(q 15 (.pick (v 10) (v 14) (.c (.bool false))))] [0, 2, 3, 15])
 (.cond (v 15) .skip (.exit 0)))
 (.block 1 (.reg false [(J 16 3),(J 17 0),(q 18 (.call (cf 82) [(v 17)])),(q 19 (.buildRow true 6 1 [(.int .i64 0), (.sl 0 [] true), (.int .i64 0), (.int .i64 0), (.bool false), (.sl 0 [] true)] [(0, (v 18))])),(q 20 (.append 6 80 (v 16) (v 19))),(J 3 20)] [0, 2, 3])))
def f64_c : VCode :=
 (.seq (K [(q 2 (.alloc true [(.int .i64 0), (.sl 0 [] true), (.int .i64 0), (.int .i64 0), (.bool false), (.sl 0 [] true)]))] [0, 2])
 (.seq (K [(q 3 (.nilrow 6))] [0, 2, 3])
 (.seq (.block 0 (.loop [0, 2, 3] f64_l0))
 (.seq (K [(J 21 3),(q 22 (.call (cf 66) [(ci 3), (v 21)])),⟨none, .store true 6 (v 2) (v 22), none, []⟩] [2])
 .ret))))
def f64 : VFn := ⟨1, 23, f64_c, [.c 2 (some 6)], true, []⟩
/- (*caliper/rx.reader).take -/
def f65_l0 : VCode :=
 (.seq (K [(q 19 (.bin .lss (v 18) (v 17)))] [0, 1, 16, 17, 18, 19])
 (.seq (.cond (v 19) .skip (.exit 0))
 (.seq (.block 1 (.seq (K [(J 20 18),(q 21 (.iaddr 1 (v 16) (v 18))),(q 22 (.load none (v 21))),(J 5 20),(J 6 22)] [0, 1, 5, 6, 16, 17, 18])
 (.seq (K [(J 23 0),(q 24 (.nilck (v 23))),(q 25 (.faddr 0 (v 24))),(q 26 (.load none (v 25))),(J 27 5),(q 28 (.iaddr 1 (v 26) (v 27))),(q 29 (.load none (v 28))),(J 30 6),(q 31 (.conv (.toInt .i64) (v 30))),(q 32 (.bin .neq (v 29) (v 31)))] [0, 1, 16, 17, 18, 32])
 (.cond (v 32) (.seq (K [(q 4 (.mov (.c (.bool false))))] [4])
 .ret) .skip))))
 (.reg false [(q 33 (.bin .add (v 18) (ci 1))),(J 18 33)] [0, 1, 16, 17, 18]))))
def f65_c : VCode :=
 (.seq (K [(q 4 (.mov (.c (.bool false))))] [0, 1])
 (.seq (.seq (K [(J 7 0),(q 8 (.nilck (v 7))),(q 9 (.faddr 0 (v 8))),(q 10 (.load none (v 9))),(q 11 (.len (v 10))),(J 12 1),(q 13 (.lens (v 12))),(q 14 (.bin .lss (v 11) (v 13)))] [0, 1, 14])
 (.cond (v 14) (.seq (K [(q 4 (.mov (.c (.bool false))))] [4])
 .ret) .skip))
 (.seq (.seq (K [(J 15 1),(q 16 (.conv .strToBytes (v 15))),(q 17 (.len (v 16))),(q 18 (.mov (ci 0)))] [0, 1, 16, 17, 18])
 (.block 0 (.loop [0, 1, 16, 17, 18] f65_l0)))
 (.seq (K [(J 34 0),(J 35 0),(q 36 (.nilck (v 35))),(q 37 (.faddr 0 (v 36))),(q 38 (.load none (v 37))),(J 39 1),(q 40 (.lens (v 39))),(q 41 (.sl 1 (v 38) (some (v 40)) none none)),(q 42 (.nilck (v 34))),(q 43 (.faddr 0 (v 42))),⟨none, .store false 1 (v 43) (v 41), none, []⟩] [])
 (.seq (K [(q 4 (.mov (.c (.bool true))))] [4])
 .ret)))))
def f65 : VFn := ⟨2, 44, f65_c, [.t 4], true, []⟩
/- caliper/rx.several -/
def f66_c : VCode :=
 (.seq (K [(q 4 (.alloc true [(.int .i64 0), (.sl 0 [] true), (.int .i64 0), (.int .i64 0), (.bool false), (.sl 0 [] true)]))] [0, 1, 4])
 (.seq (.seq (K [(J 5 1),(q 6 (.len (v 5)))] [0, 1, 4, 6])
 (.block 0 (.seq (K [(q 8 (.bin .eql (v 6) (ci 0))),(J 7 8)] [0, 1, 4, 6, 7])
 (.cond (v 7) (.seq (K [(q 9 (.build [(.int .i64 0), (.sl 0 [] true), (.int .i64 0), (.int .i64 0), (.bool false), (.sl 0 [] true)] [(0, 1, (ci 1))])),⟨none, .store true 6 (v 4) (v 9), none, []⟩] [4])
 .ret) (.seq (K [(q 11 (.bin .eql (v 6) (ci 1))),(J 10 11)] [0, 1, 4, 10])
 (.cond (v 10) (.seq (K [(J 12 1),(q 13 (.iaddr 6 (v 12) (ci 0))),(q 14 (.load (some 6) (v 13))),⟨none, .store true 6 (v 4) (v 14), none, []⟩] [4])
 .ret) .skip))))))
 (.seq (K [(J 15 0),(J 16 1),(q 17 (.build [(.int .i64 0), (.sl 0 [] true), (.int .i64 0), (.int .i64 0), (.bool false), (.sl 0 [] true)] [(0, 1, (v 15)), (5, 1, (v 16))])),⟨none, .store true 6 (v 4) (v 17), none, []⟩] [4])
 .ret)))
def f66 : VFn := ⟨2, 18, f66_c, [.c 4 (some 6)], true, []⟩
/- caliper/rx.ranges -/
def f67_c : VCode :=
 (.seq (K [(q 2 (.mov (.c (.bool false))))] [0])
 (.seq (K [(J 3 0),(q 4 (.call (cf 7) [(v 3)])),(J 5 0),(q 6 (.call (cf 77) [(v 4), (v 5)])),(J 2 6)] [2])
 .ret))
def f67 : VFn := ⟨1, 7, f67_c, [.t 2], true, []⟩
/- slices.ContainsFunc[[]caliper/api.Rx,caliper/api.Rx] -/
def f68_c : VCode :=
 (.seq (K [(q 4 (.mov (.c (.bool false))))] [0, 1])
 (.seq (K [(J 5 0),(J 6 1),(q 7 (.call (cf 83) [(v 5), (v 6)])),(q 8 (.bin .geq (v 7) (ci 0))),(J 4 8)] [4])
 .ret))
def f68 : VFn := ⟨2, 9, f68_c, [.t 4], true, []⟩
/- caliper/rx.fits$1 -/
def f69_c : VCode :=
 (.seq (K [(q 2 (.box true 6 (v 0))),(q 3 (.mov (.c (.bool false))))] [1, 2])
 (.seq (K [(q 4 (.load (some 6) (v 2))),(q 5 (.load none (v 1))),(q 6 (.bin .sub (v 5) (ci 1))),(q 7 (.call (cf 46) [(v 4), (v 6)])),(q 8 (.un .not (v 7))),(J 3 8)] [3])
 .ret))
def f69 : VFn := ⟨2, 9, f69_c, [.t 3], true, []⟩
/- slices.siftDownCmpFunc[caliper/api.Range] -/
def f70_l0 : VCode :=
 (.block 1 (.seq (K [(J 13 10),(q 14 (.bin .mul (ci 2) (v 13))),(q 15 (.bin .add (v 14) (ci 1))),(J 11 15)] [0, 2, 3, 4, 10, 11])
 (.seq (.seq (K [(J 16 11),(J 17 2),(q 18 (.bin .geq (v 16) (v 17)))] [0, 2, 3, 4, 10, 11, 18])
 (.cond (v 18) (.exit 0) .skip))
 (.seq (.seq (B [(J 19 11),(q 20 (.bin .add (v 19) (ci 1))),(J 21 2),(q 22 (.bin .lss (v 20) (v 21))),(J 23 22),(Z 24 4 23),(Z 25 0 23),(Z 26 3 23),(Z 27 11 23),(Y 28 (.bin .add (v 26) (v 27)) 23),(Y 29 (.iaddr 2 (v 25) (v 28)) 23),(Y 30 (.load (some 2) (v 29)) 23),(Z 31 0 23),(Z 32 3 23),(Z 33 11 23),(Y 34 (.bin .add (v 32) (v 33)) 23),(Y 35 (.bin .add (v 34) (ci 1)) 23),(Y 36 (.iaddr 2 (v 31) (v 35)) 23),(Y 37 (.load (some 2) (v 36)) 23),(Y 38 (.call (v 24) [(v 30), (v 37)]) 23),(Y 39 (.bin .lss (v 38) (ci 0)) 23),(q 40 (.pick (v 23) (v 39) (.c (.bool false))))] [0, 2, 3, 4, 10, 11, 40])
 (.cond (v 40) (.reg false [(J 41 11),(q 42 (.bin .add (v 41) (ci 1))),(J 11 42)] [0, 2, 3, 4, 10, 11]) .skip))
 (.seq (.seq (B [(J 43 4),(J 44 0),(J 45 3),(J 46 10),(q 47 (.bin .add (v 45) (v 46))),(q 48 (.iaddr 2 (v 44) (v 47))),(q 49 (.load (some 2) (v 48))),(J 50 0),(J 51 3),(J 52 11),(q 53 (.bin .add (v 51) (v 52))),(q 54 (.iaddr 2 (v 50) (v 53))),(q 55 (.load (some 2) (v 54))),(q 56 (.call (v 43) [(v 49), (v 55)])),(q 57 (.bin .lss (v 56) (ci 0))),(q 58 (.un .not (v 57)))] [0, 2, 3, 4, 10, 11, 58])
 (.cond (v 58) .ret .skip))
 (.seq (B [(J 59 0),(J 60 3),(J 61 10),(q 62 (.bin .add (v 60) (v 61))),(J 63 0),(J 64 3),(J 65 11),(q 66 (.bin .add (v 64) (v 65))),(J 67 0),(J 68 3),(J 69 11),(q 70 (.bin .add (v 68) (v 69))),(q 71 (.iaddr 2 (v 67) (v 70))),(q 72 (.load (some 2) (v 71))),(J 73 0),(J 74 3),(J 75 10),(q 76 (.bin .add (v 74) (v 75))),(q 77 (.iaddr 2 (v 73) (v 76))),(q 78 (.load (some 2) (v 77))),(q 79 (.iaddr 2 (v 59) (v 62))),⟨none, .store true 2 (v 79) (v 72), none, []⟩,(q 80 (.iaddr 2 (v 63) (v 66))),⟨none, .store true 2 (v 80) (v 78), none, []⟩] [0, 2, 3, 4, 11])
 (.reg false [(J 81 11),(J 10 81)] [0, 2, 3, 4, 10])))))))
def f70_c : VCode :=
 (.seq (K [(J 12 1),(J 10 12)] [0, 2, 3, 4, 10])
 (.block 0 (.loop [0, 2, 3, 4, 10] f70_l0)))
def f70 : VFn := ⟨5, 82, f70_c, [], false, [0]⟩
/- slices.nextPowerOfTwo -/
def f71_c : VCode :=
 (.seq (K [(q 2 (.mov (.c (.int .u64 0))))] [0])
 (.seq (K [(J 3 0),(q 4 (.conv (.toInt .u64) (v 3))),(q 5 (.call (cf 30) [(v 4)])),(q 6 (.bin .shl (.c (.int .u64 1)) (v 5))),(J 2 6)] [2])
 .ret))
def f71 : VFn := ⟨1, 7, f71_c, [.t 2], true, []⟩
/- (*slices.xorshift).Next -/
def f72_c : VCode :=
 (.seq (K [(q 2 (.mov (.c (.int .u64 0))))] [0])
 (.seq (B [(J 3 0),(q 4 (.nilck (v 3))),(q 5 (.load none (v 4))),(J 6 0),(q 7 (.nilck (v 6))),(q 8 (.load none (v 7))),(q 9 (.bin .shl (v 8) (.c (.int .u64 13)))),(q 10 (.bin .xor (v 5) (v 9))),(q 11 (.nilck (v 3))),⟨none, .store false 1 (v 11) (v 10), none, []⟩] [0])
 (.seq (B [(J 12 0),(q 13 (.nilck (v 12))),(q 14 (.load none (v 13))),(J 15 0),(q 16 (.nilck (v 15))),(q 17 (.load none (v 16))),(q 18 (.bin .shr (v 17) (.c (.int .u64 7)))),(q 19 (.bin .xor (v 14) (v 18))),(q 20 (.nilck (v 12))),⟨none, .store false 1 (v 20) (v 19), none, []⟩] [0])
 (.seq (B [(J 21 0),(q 22 (.nilck (v 21))),(q 23 (.load none (v 22))),(J 24 0),(q 25 (.nilck (v 24))),(q 26 (.load none (v 25))),(q 27 (.bin .shl (v 26) (.c (.int .u64 17)))),(q 28 (.bin .xor (v 23) (v 27))),(q 29 (.nilck (v 21))),⟨none, .store false 1 (v 29) (v 28), none, []⟩] [0])
 (.seq (K [(J 30 0),(q 31 (.nilck (v 30))),(q 32 (.load none (v 31))),(J 2 32)] [2])
 .ret)))))
def f72 : VFn := ⟨1, 33, f72_c, [.t 2], true, []⟩
/- slices.medianAdjacentCmpFunc[caliper/api.Range] -/
def f73_c : VCode :=
 (.seq (K [(q 8 (.mov (ci 0)))] [0, 1, 2, 3])
 (.seq (K [(J 9 0),(J 10 1),(q 11 (.bin .sub (v 10) (ci 1))),(J 12 1),(J 13 1),(q 14 (.bin .add (v 13) (ci 1))),(J 15 2),(J 16 3),(q 17 (.call (cf 74) [(v 9), (v 11), (v 12), (v 14), (v 15), (v 16)])),(J 8 17)] [8])
 .ret))
def f73 : VFn := ⟨4, 18, f73_c, [.t 8], false, [0]⟩
/- slices.medianCmpFunc[caliper/api.Range] -/
def f74_c : VCode :=
 (.seq (K [(q 12 (.mov (ci 0)))] [0, 1, 2, 3, 4, 5])
 (.seq (K [(J 14 0),(J 15 1),(J 16 2),(J 17 4),(J 18 5),(q 19 (.call (cf 84) [(v 14), (v 15), (v 16), (v 17), (v 18)])),(J 13 19),(q 20 (.extract (v 13) 0)),(q 21 (.extract (v 13) 1)),(J 1 20),(J 2 21)] [0, 1, 2, 3, 4, 5])
 (.seq (K [(J 23 0),(J 24 2),(J 25 3),(J 26 4),(J 27 5),(q 28 (.call (cf 84) [(v 23), (v 24), (v 25), (v 26), (v 27)])),(J 22 28),(q 29 (.extract (v 22) 0)),(q 30 (.extract (v 22) 1)),(J 2 29),(J 3 30)] [0, 1, 2, 4, 5])
 (.seq (K [(J 32 0),(J 33 1),(J 34 2),(J 35 4),(J 36 5),(q 37 (.call (cf 84) [(v 32), (v 33), (v 34), (v 35), (v 36)])),(J 31 37),(q 38 (.extract (v 31) 0)),(q 39 (.extract (v 31) 1)),(J 1 38),(J 2 39)] [2])
 (.seq (K [(J 40 2),(J 12 40)] [12])
 .ret)))))
def f74 : VFn := ⟨6, 41, f74_c, [.t 12], false, [0]⟩
/- slices.IndexFunc[[]caliper/api.State,caliper/api.State] -/
def f75_l0 : VCode :=
 (.seq (K [(q 9 (.bin .lss (v 8) (v 7)))] [0, 1, 7, 8, 9])
 (.seq (.cond (v 9) .skip (.exit 0))
 (.seq (.block 1 (.seq (K [(J 10 8),(J 5 10)] [0, 1, 5, 7, 8])
 (.seq (K [(J 11 1),(J 12 0),(J 13 5),(q 14 (.iaddr 4 (v 12) (v 13))),(q 15 (.load (some 4) (v 14))),(q 16 (.call (v 11) [(v 15)]))] [0, 1, 5, 7, 8, 16])
 (.cond (v 16) (.seq (K [(J 17 5),(J 4 17)] [4])
 .ret) .skip))))
 (.reg false [(q 18 (.bin .add (v 8) (ci 1))),(J 8 18)] [0, 1, 7, 8]))))
def f75_c : VCode :=
 (.seq (K [(q 4 (.mov (ci 0)))] [0, 1])
 (.seq (.seq (K [(J 6 0),(q 7 (.len (v 6))),(q 8 (.mov (ci 0)))] [0, 1, 7, 8])
 (.block 0 (.loop [0, 1, 7, 8] f75_l0)))
 (.seq (K [(q 4 (.mov (ci (-1))))] [4])
 .ret)))
def f75 : VFn := ⟨2, 19, f75_c, [.t 4], true, []⟩
/- caliper/nfa.state$1 -/
def f76_c : VCode :=
 (.seq (K [(q 5 (.mov (.c (.bool false))))] [0, 1, 2])
 (.seq (K [(J 6 1),(J 7 6),(Z 8 0 7),(Y 9 (.bin .geq (v 8) (ci 0)) 7),(q 10 (.pick (v 7) (v 9) (.c (.bool false)))),(J 11 10),(Z 12 0 11),(Y 13 (.load none (v 2)) 11),(Y 14 (.bin .lss (v 12) (v 13)) 11),(q 15 (.pick (v 11) (v 14) (.c (.bool false)))),(J 16 15),⟨(some 17), .mov (v 1), (some (16, false)), []⟩,⟨(some 18), .un .not (v 17), (some (16, false)), []⟩,⟨(some 19), .mov (v 18), (some (16, false)), []⟩,(Z 20 0 19),(Y 21 (.bin .eql (v 20) (ci 0)) 19),⟨(some 22), .pick (v 19) (v 21) (.c (.bool false)), (some (16, false)), []⟩,(q 23 (.pick (v 16) (.c (.bool true)) (v 22))),(J 5 23)] [5])
 .ret))
def f76 : VFn := ⟨3, 24, f76_c, [.t 5], true, []⟩
/- slices.Equal[[]caliper/api.Range,caliper/api.Range] -/
def f77_l0 : VCode :=
 (.seq (K [(q 14 (.bin .lss (v 13) (v 12)))] [0, 1, 12, 13, 14])
 (.seq (.cond (v 14) .skip (.exit 0))
 (.seq (.block 1 (.seq (K [(J 15 13),(J 5 15)] [0, 1, 5, 12, 13])
 (.seq (B [(J 16 0),(J 17 5),(q 18 (.iaddr 2 (v 16) (v 17))),(q 19 (.load (some 2) (v 18))),(J 20 1),(J 21 5),(q 22 (.iaddr 2 (v 20) (v 21))),(q 23 (.load (some 2) (v 22))),(q 24 (.eqs true [.int, .int] (v 19) (v 23)))] [0, 1, 12, 13, 24])
 (.cond (v 24) (.seq (K [(q 4 (.mov (.c (.bool false))))] [4])
 .ret) .skip))))
 (.reg false [(q 25 (.bin .add (v 13) (ci 1))),(J 13 25)] [0, 1, 12, 13]))))
def f77_c : VCode :=
 (.seq (K [(q 4 (.mov (.c (.bool false))))] [0, 1])
 (.seq (.seq (K [(J 6 0),(q 7 (.len (v 6))),(J 8 1),(q 9 (.len (v 8))),(q 10 (.bin .neq (v 7) (v 9)))] [0, 1, 10])
 (.cond (v 10) (.seq (K [(q 4 (.mov (.c (.bool false))))] [4])
 .ret) .skip))
 (.seq (.seq (K [(J 11 0),(q 12 (.len (v 11))),(q 13 (.mov (ci 0)))] [0, 1, 12, 13])
 (.block 0 (.loop [0, 1, 12, 13] f77_l0)))
 (.seq (K [(q 4 (.mov (.c (.bool true))))] [4])
 .ret))))
def f77 : VFn := ⟨2, 26, f77_c, [.t 4], true, []⟩
/- caliper/utf.goes -/
def f78_c : VCode :=
 (.seq (K [(q 2 (.mov (ci 0))),(q 3 (.mov (.c (.int .u8 0)))),(q 4 (.mov (.c (.int .u8 0))))] [0])
 (.seq (.block 0 (.seq (K [(J 6 0),(q 7 (.bin .lss (v 6) (.c (.int .u8 128)))),(J 5 7)] [0, 5])
 (.cond (v 5) (.seq (K [(q 2 (.mov (ci 0))),(q 3 (.mov (.c (.int .u8 0)))),(q 4 (.mov (.c (.int .u8 0))))] [2, 3, 4])
 .ret) (.seq (K [(J 9 0),(q 10 (.bin .lss (v 9) (.c (.int .u8 194)))),(J 11 10),⟨(some 12), .mov (v 0), (some (11, false)), []⟩,⟨(some 13), .bin .gtr (v 12) (.c (.int .u8 244)), (some (11, false)), []⟩,(q 14 (.pick (v 11) (.c (.bool true)) (v 13))),(J 8 14)] [0, 8])
 (.cond (v 8) (.seq (K [(q 2 (.mov (ci (-1)))),(q 3 (.mov (.c (.int .u8 0)))),(q 4 (.mov (.c (.int .u8 0))))] [2, 3, 4])
 .ret) (.seq (K [(J 16 0),(q 17 (.bin .lss (v 16) (.c (.int .u8 224)))),(J 15 17)] [0, 15])
 (.cond (v 15) (.seq (K [(q 2 (.mov (ci 1))),(q 3 (.mov (.c (.int .u8 128)))),(q 4 (.mov (.c (.int .u8 191))))] [2, 3, 4])
 .ret) (.seq (K [(J 19 0),(q 20 (.bin .eql (v 19) (.c (.int .u8 224)))),(J 18 20)] [0, 18])
 (.cond (v 18) (.seq (K [(q 2 (.mov (ci 2))),(q 3 (.mov (.c (.int .u8 160)))),(q 4 (.mov (.c (.int .u8 191))))] [2, 3, 4])
 .ret) (.seq (K [(J 22 0),(q 23 (.bin .eql (v 22) (.c (.int .u8 237)))),(J 21 23)] [0, 21])
 (.cond (v 21) (.seq (K [(q 2 (.mov (ci 2))),(q 3 (.mov (.c (.int .u8 128)))),(q 4 (.mov (.c (.int .u8 159))))] [2, 3, 4])
 .ret) (.seq (K [(J 25 0),(q 26 (.bin .lss (v 25) (.c (.int .u8 240)))),(J 24 26)] [0, 24])
 (.cond (v 24) (.seq (K [(q 2 (.mov (ci 2))),(q 3 (.mov (.c (.int .u8 128)))),(q 4 (.mov (.c (.int .u8 191))))] [2, 3, 4])
 .ret) (.seq (K [(J 28 0),(q 29 (.bin .eql (v 28) (.c (.int .u8 240)))),(J 27 29)] [0, 27])
 (.cond (v 27) (.seq (K [(q 2 (.mov (ci 3))),(q 3 (.mov (.c (.int .u8 144)))),(q 4 (.mov (.c (.int .u8 191))))] [2, 3, 4])
 .ret) (.seq (K [(J 31 0),(q 32 (.bin .eql (v 31) (.c (.int .u8 244)))),(J 30 32)] [30])
 (.cond (v 30) (.seq (K [(q 2 (.mov (ci 3))),(q 3 (.mov (.c (.int .u8 128)))),(q 4 (.mov (.c (.int .u8 143))))] [2, 3, 4])
 .ret) .skip)))))))))))))))))
 (.seq (K [(q 2 (.mov (ci 3))),(q 3 (.mov (.c (.int .u8 128)))),(q 4 (.mov (.c (.int .u8 191))))] [2, 3, 4])
 .ret)))
def f78 : VFn := ⟨1, 33, f78_c, [.t 2, .t 3, .t 4], true, []⟩
/- (*caliper/pike.run).border -/
def f79_c : VCode :=
 (.seq (K [(q 4 (.mov (.c (.bool false))))] [0, 1])
 (.seq (K [(J 7 1),(q 8 (.bin .gtr (v 7) (ci 0))),(J 9 8),(Z 10 0 9),(Y 11 (.nilck (v 10)) 9),(Y 12 (.faddr 1 (v 11)) 9),(Y 13 (.load none (v 12)) 9),(Z 14 1 9),(Y 15 (.bin .sub (v 14) (ci 1)) 9),(Y 16 (.iaddr 1 (v 13) (v 15)) 9),(Y 17 (.load none (v 16)) 9),(Y 18 (.call (cf 85) [(v 17)]) 9),(q 19 (.pick (v 9) (v 18) (.c (.bool false)))),(J 5 19)] [0, 1, 5])
 (.seq (K [(J 20 1),(J 21 0),(q 22 (.nilck (v 21))),(q 23 (.faddr 1 (v 22))),(q 24 (.load none (v 23))),(q 25 (.len (v 24))),(q 26 (.bin .lss (v 20) (v 25))),(J 27 26),(Z 28 0 27),(Y 29 (.nilck (v 28)) 27),(Y 30 (.faddr 1 (v 29)) 27),(Y 31 (.load none (v 30)) 27),(Z 32 1 27),(Y 33 (.iaddr 1 (v 31) (v 32)) 27),(Y 34 (.load none (v 33)) 27),(Y 35 (.call (cf 85) [(v 34)]) 27),(q 36 (.pick (v 27) (v 35) (.c (.bool false)))),(J 6 36)] [5, 6])
 (.seq (K [(J 37 5),(J 38 6),(q 39 (.eqb true (v 37) (v 38))),(J 4 39)] [4])
 .ret))))
def f79 : VFn := ⟨2, 40, f79_c, [.t 4], true, []⟩
/- caliper/rx.among -/
def f80_c : VCode :=
 (.seq (K [(q 4 (.mov (.c (.bool false))))] [0, 1])
 (.seq (K [(J 5 0),(q 6 (.bin .geq (v 5) (ci 0))),(J 7 6),(Z 8 0 7),(Y 9 (.bin .lss (v 8) (ci 128)) 7),(q 10 (.pick (v 7) (v 9) (.c (.bool false)))),(J 11 10),(Z 12 1 11),(Z 13 0 11),(Y 14 (.conv (.toInt .u8) (v 13)) 11),(Y 15 (.call (cf 86) [(v 12), (v 14)]) 11),(Y 16 (.bin .geq (v 15) (ci 0)) 11),(q 17 (.pick (v 11) (v 16) (.c (.bool false)))),(J 4 17)] [4])
 .ret))
def f80 : VFn := ⟨2, 18, f80_c, [.t 4], true, []⟩
/- (*caliper/rx.reader).peek -/
def f81_c : VCode :=
 (.seq (K [(q 2 (.mov (ci 0)))] [0])
 (.seq (.seq (K [(J 3 0),(q 4 (.nilck (v 3))),(q 5 (.faddr 0 (v 4))),(q 6 (.load none (v 5))),(q 7 (.len (v 6))),(q 8 (.bin .eql (v 7) (ci 0)))] [0, 8])
 (.cond (v 8) (.seq (K [(q 2 (.mov (ci (-1))))] [2])
 .ret) .skip))
 (.seq (K [(J 9 0),(q 10 (.nilck (v 9))),(q 11 (.faddr 0 (v 10))),(q 12 (.load none (v 11))),(q 13 (.iaddr 1 (v 12) (ci 0))),(q 14 (.load none (v 13))),(J 2 14)] [2])
 .ret)))
def f81 : VFn := ⟨1, 15, f81_c, [.t 2], true, []⟩
/- (*caliper/rx.reader).term -/
def f82_c : VCode :=
 (.seq (K [(q 2 (.alloc true [(.int .i64 0), (.sl 0 [] true), (.int .i64 0), (.int .i64 0), (.bool false), (.sl 0 [] true)]))] [0, 2])
 (.seq (.block 0 (.seq (K [(J 8 0),(q 9 (.call (cf 65) [(v 8), (.c (.str ⟨#[94]⟩))])),(J 7 9)] [0, 2, 7])
 (.cond (v 7) (.seq (K [(q 10 (.build [(.int .i64 0), (.sl 0 [] true), (.int .i64 0), (.int .i64 0), (.bool false), (.sl 0 [] true)] [(0, 1, (ci 6))])),⟨none, .store true 6 (v 2) (v 10), none, []⟩] [2])
 .ret) (.seq (K [(J 12 0),(q 13 (.call (cf 65) [(v 12), (.c (.str ⟨#[36]⟩))])),(J 11 13)] [0, 2, 11])
 (.cond (v 11) (.seq (K [(q 14 (.build [(.int .i64 0), (.sl 0 [] true), (.int .i64 0), (.int .i64 0), (.bool false), (.sl 0 [] true)] [(0, 1, (ci 7))])),⟨none, .store true 6 (v 2) (v 14), none, []⟩] [2])
 .ret) (.seq (K [(J 16 0),(q 17 (.call (cf 65) [(v 16), (.c (.str ⟨#[92, 98]⟩))])),(J 15 17)] [0, 2, 15])
 (.cond (v 15) (.seq (K [(q 18 (.build [(.int .i64 0), (.sl 0 [] true), (.int .i64 0), (.int .i64 0), (.bool false), (.sl 0 [] true)] [(0, 1, (ci 8))])),⟨none, .store true 6 (v 2) (v 18), none, []⟩] [2])
 .ret) (.seq (K [(J 20 0),(q 21 (.call (cf 65) [(v 20), (.c (.str ⟨#[92, 66]⟩))])),(J 19 21)] [0, 2, 19])
 (.cond (v 19) (.seq (K [(q 22 (.build [(.int .i64 0), (.sl 0 [] true), (.int .i64 0), (.int .i64 0), (.bool false), (.sl 0 [] true)] [(0, 1, (ci 9))])),⟨none, .store true 6 (v 2) (v 22), none, []⟩] [2])
 .ret) .skip)))))))))
 (.seq (K [(J 23 0),(q 24 (.call (cf 87) [(v 23)])),(q 3 (.alloc true [(.int .i64 0), (.sl 0 [] true), (.int .i64 0), (.int .i64 0), (.bool false), (.sl 0 [] true)])),⟨none, .store true 6 (v 3) (v 24), none, []⟩] [0, 2, 3])
 (.seq (K [(J 26 0),(q 27 (.call (cf 88) [(v 26)])),(J 25 27),(q 28 (.extract (v 25) 0)),(q 29 (.extract (v 25) 1)),(q 30 (.extract (v 25) 2)),(J 4 28),(J 5 29),(J 6 30)] [0, 2, 3, 4, 5, 6])
 (.seq (.seq (K [(J 31 6),(q 32 (.un .not (v 31)))] [0, 2, 3, 4, 5, 32])
 (.cond (v 32) (.seq (K [(q 33 (.load (some 6) (v 3))),⟨none, .store true 6 (v 2) (v 33), none, []⟩] [2])
 .ret) .skip))
 (.seq (B [(J 34 4),(J 35 5),(J 36 0),⟨(some 37), .call (cf 65) [(v 36), (.c (.str ⟨#[63]⟩))], none, [1000000, 3]⟩,(q 38 (.load (some 6) (v 3))),(q 39 (.buildRow true 6 1 [(.int .i64 0), (.sl 0 [] true), (.int .i64 0), (.int .i64 0), (.bool false), (.sl 0 [] true)] [(0, (v 38))])),(q 40 (.build [(.int .i64 0), (.sl 0 [] true), (.int .i64 0), (.int .i64 0), (.bool false), (.sl 0 [] true)] [(0, 1, (ci 5)), (2, 1, (v 34)), (3, 1, (v 35)), (4, 1, (v 37)), (5, 1, (v 39))])),⟨none, .store true 6 (v 2) (v 40), none, []⟩] [2])
 .ret))))))
def f82 : VFn := ⟨1, 41, f82_c, [.c 2 (some 6)], true, []⟩
/- slices.IndexFunc[[]caliper/api.Rx,caliper/api.Rx] -/
def f83_l0 : VCode :=
 (.seq (K [(q 9 (.bin .lss (v 8) (v 7)))] [0, 1, 7, 8, 9])
 (.seq (.cond (v 9) .skip (.exit 0))
 (.seq (.block 1 (.seq (K [(J 10 8),(J 5 10)] [0, 1, 5, 7, 8])
 (.seq (K [(J 11 1),(J 12 0),(J 13 5),(q 14 (.iaddr 6 (v 12) (v 13))),(q 15 (.load (some 6) (v 14))),(q 16 (.call (v 11) [(v 15)]))] [0, 1, 5, 7, 8, 16])
 (.cond (v 16) (.seq (K [(J 17 5),(J 4 17)] [4])
 .ret) .skip))))
 (.reg false [(q 18 (.bin .add (v 8) (ci 1))),(J 8 18)] [0, 1, 7, 8]))))
def f83_c : VCode :=
 (.seq (K [(q 4 (.mov (ci 0)))] [0, 1])
 (.seq (.seq (K [(J 6 0),(q 7 (.len (v 6))),(q 8 (.mov (ci 0)))] [0, 1, 7, 8])
 (.block 0 (.loop [0, 1, 7, 8] f83_l0)))
 (.seq (K [(q 4 (.mov (ci (-1))))] [4])
 .ret)))
def f83 : VFn := ⟨2, 19, f83_c, [.t 4], true, []⟩
/- slices.order2CmpFunc[caliper/api.Range] -/
def f84_c : VCode :=
 (.seq (K [(q 10 (.mov (ci 0))),(q 11 (.mov (ci 0)))] [0, 1, 2, 3, 4])
 (.seq (.seq (B [(J 12 4),(J 13 0),(J 14 2),(q 15 (.iaddr 2 (v 13) (v 14))),(q 16 (.load (some 2) (v 15))),(J 17 0),(J 18 1),(q 19 (.iaddr 2 (v 17) (v 18))),(q 20 (.load (some 2) (v 19))),(q 21 (.call (v 12) [(v 16), (v 20)])),(q 22 (.bin .lss (v 21) (ci 0)))] [1, 2, 3, 22])
 (.cond (v 22) (.seq (K [(J 23 3),(q 24 (.nilck (v 23))),(q 25 (.load none (v 24))),(q 26 (.bin .add (v 25) (ci 1))),(q 27 (.nilck (v 23))),⟨none, .store false 1 (v 27) (v 26), none, []⟩] [1, 2])
 (.seq (K [(J 28 2),(J 29 1),(J 10 28),(J 11 29)] [10, 11])
 .ret)) .skip))
 (.seq (K [(J 30 1),(J 31 2),(J 10 30),(J 11 31)] [10, 11])
 .ret)))
def f84 : VFn := ⟨5, 32, f84_c, [.t 10, .t 11], false, [0]⟩
/- caliper/pike.Word -/
def f85_c : VCode :=
 (.seq (K [(q 2 (.mov (.c (.bool false))))] [0])
 (.seq (K [(J 3 0),(q 4 (.bin .geq (v 3) (ci 48))),(J 5 4),(Z 6 0 5),(Y 7 (.bin .leq (v 6) (ci 57)) 5),(q 8 (.pick (v 5) (v 7) (.c (.bool false)))),(J 9 8),⟨(some 10), .mov (v 0), (some (9, false)), []⟩,⟨(some 11), .bin .eql (v 10) (ci 95), (some (9, false)), []⟩,(q 12 (.pick (v 9) (.c (.bool true)) (v 11))),(J 13 12),⟨(some 14), .mov (v 0), (some (13, false)), []⟩,⟨(some 15), .bin .or (v 14) (ci 32), (some (13, false)), []⟩,⟨(some 16), .bin .geq (v 15) (ci 97), (some (13, false)), []⟩,⟨(some 17), .mov (v 16), (some (13, false)), []⟩,(Z 18 0 17),(Y 19 (.bin .or (v 18) (ci 32)) 17),(Y 20 (.bin .leq (v 19) (ci 122)) 17),⟨(some 21), .pick (v 17) (v 20) (.c (.bool false)), (some (13, false)), []⟩,⟨(some 22), .mov (v 21), (some (13, false)), []⟩,(Z 23 0 22),(Y 24 (.bin .lss (v 23) (ci 128)) 22),⟨(some 25), .pick (v 22) (v 24) (.c (.bool false)), (some (13, false)), []⟩,(q 26 (.pick (v 13) (.c (.bool true)) (v 25))),(J 2 26)] [2])
 .ret))
def f85 : VFn := ⟨1, 27, f85_c, [.t 2], true, []⟩
/- strings.IndexByte -/
def f86_c : VCode :=
 (.seq (K [(q 4 (.mov (ci 0)))] [0, 1])
 (.seq (K [(J 5 0),(J 6 1),(q 7 (.call (cf 89) [(v 5), (v 6)])),(J 4 7)] [4])
 .ret))
def f86 : VFn := ⟨2, 8, f86_c, [.t 4], true, []⟩
/- (*caliper/rx.reader).atom -/
def f87_c : VCode :=
 (.seq (K [(q 2 (.alloc true [(.int .i64 0), (.sl 0 [] true), (.int .i64 0), (.int .i64 0), (.bool false), (.sl 0 [] true)]))] [0, 2])
 (.seq (.block 0 (.seq (.seq (K [(J 8 0),(q 9 (.call (cf 65) [(v 8), (.c (.str ⟨#[40, 63, 58]⟩))])),(J 7 9)] [0, 2, 7])
 (.cond (v 7) .skip (.reg false [(J 10 0),(q 11 (.call (cf 65) [(v 10), (.c (.str ⟨#[40]⟩))])),(J 7 11)] [0, 2, 7])))
 (.cond (v 7) (.seq (K [(J 12 0),(q 13 (.call (cf 81) [(v 12)])),(q 14 (.bin .neq (v 13) (ci 63))),(q 15 (.call (cf 45) [(v 14)]))] [0, 2])
 (.seq (K [(J 16 0),(q 17 (.nilck (v 16))),(q 18 (.faddr 1 (v 17))),(q 19 (.load none (v 18))),(q 20 (.bin .add (v 19) (ci 1))),(q 21 (.nilck (v 16))),(q 22 (.faddr 1 (v 21))),⟨none, .store false 1 (v 22) (v 20), none, []⟩] [0, 2])
 (.seq (K [(J 23 0),(q 24 (.nilck (v 23))),(q 25 (.faddr 1 (v 24))),(q 26 (.load none (v 25))),(q 27 (.bin .leq (v 26) (ci 200))),(q 28 (.call (cf 45) [(v 27)]))] [0, 2])
 (.seq (K [(J 29 0),(q 30 (.call (cf 44) [(v 29)])),(q 3 (.alloc true [(.int .i64 0), (.sl 0 [] true), (.int .i64 0), (.int .i64 0), (.bool false), (.sl 0 [] true)])),⟨none, .store true 6 (v 3) (v 30), none, []⟩] [0, 2, 3])
 (.seq (K [(J 31 0),(q 32 (.nilck (v 31))),(q 33 (.faddr 1 (v 32))),(q 34 (.load none (v 33))),(q 35 (.bin .sub (v 34) (ci 1))),(q 36 (.nilck (v 31))),(q 37 (.faddr 1 (v 36))),⟨none, .store false 1 (v 37) (v 35), none, []⟩] [0, 2, 3])
 (.seq (K [(J 38 0),(q 39 (.call (cf 65) [(v 38), (.c (.str ⟨#[41]⟩))])),(q 40 (.call (cf 45) [(v 39)]))] [2, 3])
 (.seq (K [(q 41 (.load (some 6) (v 3))),⟨none, .store true 6 (v 2) (v 41), none, []⟩] [2])
 .ret))))))) (.seq (K [(J 43 0),(q 44 (.call (cf 65) [(v 43), (.c (.str ⟨#[46]⟩))])),(J 42 44)] [0, 2, 42])
 (.cond (v 42) (.seq (K [(q 45 (.buildRow false 1 6 [(.int .i64 0)] [(0, (ci 10)), (1, (ci 10)), (2, (ci 13)), (3, (ci 13)), (4, (ci 8232)), (5, (ci 8233))])),(q 46 (.call (cf 92) [(v 45)])),(q 47 (.call (cf 91) [(v 46)])),(q 48 (.call (cf 90) [(v 47)])),⟨none, .store true 6 (v 2) (v 48), none, []⟩] [2])
 .ret) (.seq (K [(J 50 0),(q 51 (.call (cf 65) [(v 50), (.c (.str ⟨#[91]⟩))])),(J 49 51)] [0, 2, 49])
 (.cond (v 49) (.seq (K [(J 52 0),(q 53 (.call (cf 93) [(v 52)])),(q 54 (.call (cf 90) [(v 53)])),⟨none, .store true 6 (v 2) (v 54), none, []⟩] [2])
 .ret) (.seq (K [(J 56 0),(q 57 (.call (cf 65) [(v 56), (.c (.str ⟨#[92]⟩))])),(J 55 57)] [0, 2, 55])
 (.cond (v 55) (.seq (K [(J 59 0),(q 60 (.call (cf 94) [(v 59)])),(J 58 60),(q 61 (.extract (v 58) 0)),(q 62 (.extract (v 58) 1)),(J 4 61),(J 5 62)] [2, 4])
 (.seq (K [(J 63 4),(q 64 (.call (cf 90) [(v 63)])),⟨none, .store true 6 (v 2) (v 64), none, []⟩] [2])
 .ret)) .skip)))))))))
 (.seq (K [(J 65 0),(q 66 (.call (cf 95) [(v 65)])),(J 6 66)] [2, 6])
 (.seq (K [(J 67 6),(q 68 (.call (cf 80) [(v 67), (.c (.str ⟨#[94, 36, 92, 46, 42, 43, 63, 40, 41, 91, 93, 123, 125, 124]⟩))])),(q 69 (.un .not (v 68))),(q 70 (.call (cf 45) [(v 69)]))] [2, 6])
 (.seq (K [(J 71 6),(J 72 6),(q 73 (.buildRow false 1 2 [(.int .i64 0)] [(0, (v 71)), (1, (v 72))])),(q 74 (.call (cf 92) [(v 73)])),(q 75 (.call (cf 90) [(v 74)])),⟨none, .store true 6 (v 2) (v 75), none, []⟩] [2])
 .ret)))))
def f87 : VFn := ⟨1, 76, f87_c, [.c 2 (some 6)], true, []⟩
/- (*caliper/rx.reader).count -/
def f88_c : VCode :=
 (.seq (K [(q 2 (.mov (ci 0))),(q 3 (.mov (ci 0))),(q 4 (.mov (.c (.bool false))))] [0])
 (.seq (.block 0 (.seq (K [(J 8 0),(q 9 (.call (cf 65) [(v 8), (.c (.str ⟨#[42]⟩))])),(J 7 9)] [0, 7])
 (.cond (v 7) (.seq (K [(q 2 (.mov (ci 0))),(q 3 (.mov (ci (-1)))),(q 4 (.mov (.c (.bool true))))] [2, 3, 4])
 .ret) (.seq (K [(J 11 0),(q 12 (.call (cf 65) [(v 11), (.c (.str ⟨#[43]⟩))])),(J 10 12)] [0, 10])
 (.cond (v 10) (.seq (K [(q 2 (.mov (ci 1))),(q 3 (.mov (ci (-1)))),(q 4 (.mov (.c (.bool true))))] [2, 3, 4])
 .ret) (.seq (K [(J 14 0),(q 15 (.call (cf 65) [(v 14), (.c (.str ⟨#[63]⟩))])),(J 13 15)] [0, 13])
 (.cond (v 13) (.seq (K [(q 2 (.mov (ci 0))),(q 3 (.mov (ci 1))),(q 4 (.mov (.c (.bool true))))] [2, 3, 4])
 .ret) (.seq (K [(J 17 0),(q 18 (.call (cf 65) [(v 17), (.c (.str ⟨#[123]⟩))])),(q 19 (.un .not (v 18))),(J 16 19)] [0, 16])
 (.cond (v 16) (.seq (K [(q 2 (.mov (ci 0))),(q 3 (.mov (ci 0))),(q 4 (.mov (.c (.bool false))))] [2, 3, 4])
 .ret) .skip)))))))))
 (.seq (K [(J 20 0),(q 21 (.call (cf 96) [(v 20)])),(J 5 21)] [0, 5])
 (.seq (K [(J 22 5),(J 6 22)] [0, 5, 6])
 (.seq (.seq (K [(J 23 0),(q 24 (.call (cf 65) [(v 23), (.c (.str ⟨#[44]⟩))]))] [0, 5, 6, 24])
 (.cond (v 24) (.reg false [(J 25 0),(q 26 (.call (cf 96) [(v 25)])),(J 6 26)] [0, 5, 6]) .skip))
 (.seq (K [(J 27 5),(q 28 (.bin .geq (v 27) (ci 0))),(J 29 28),(Z 30 6 29),(Y 31 (.bin .lss (v 30) (ci 0)) 29),(Z 32 31 29),⟨(some 33), .mov (v 6), (some (32, false)), []⟩,⟨(some 34), .mov (v 5), (some (32, false)), []⟩,⟨(some 35), .bin .geq (v 33) (v 34), (some (32, false)), []⟩,(Y 36 (.pick (v 32) (.c (.bool true)) (v 35)) 29),(q 37 (.pick (v 29) (v 36) (.c (.bool false)))),(J 38 37),(Z 39 0 38),(Y 40 (.call (cf 65) [(v 39), (.c (.str ⟨#[125]⟩))]) 38),(q 41 (.pick (v 38) (v 40) (.c (.bool false)))),(q 42 (.call (cf 45) [(v 41)]))] [5, 6])
 (.seq (K [(J 43 5),(J 44 6),(J 2 43),(J 3 44),(q 4 (.mov (.c (.bool true))))] [2, 3, 4])
 .ret)))))))
def f88 : VFn := ⟨1, 45, f88_c, [.t 2, .t 3, .t 4], true, []⟩
/- internal/stringslite.IndexByte -/
def f89_c : VCode :=
 (.seq (K [(q 4 (.mov (ci 0)))] [0, 1])
 (.seq (K [(J 5 0),(J 6 1),(q 7 (.call (cf 97) [(v 5), (v 6)])),(J 4 7)] [4])
 .ret))
def f89 : VFn := ⟨2, 8, f89_c, [.t 4], true, []⟩
/- caliper/rx.set -/
def f90_c : VCode :=
 (.seq (K [(q 2 (.alloc true [(.int .i64 0), (.sl 0 [] true), (.int .i64 0), (.int .i64 0), (.bool false), (.sl 0 [] true)]))] [0, 2])
 (.seq (K [(J 3 0),(q 4 (.build [(.int .i64 0), (.sl 0 [] true), (.int .i64 0), (.int .i64 0), (.bool false), (.sl 0 [] true)] [(0, 1, (ci 2)), (1, 1, (v 3))])),⟨none, .store true 6 (v 2) (v 4), none, []⟩] [2])
 .ret))
def f90 : VFn := ⟨1, 5, f90_c, [.c 2 (some 6)], true, []⟩
/- caliper/rx.Turn -/
def f91_l0 : VCode :=
 (.seq (K [(q 14 (.bin .lss (v 13) (v 12)))] [3, 4, 11, 12, 13, 14])
 (.seq (.cond (v 14) .skip (.exit 0))
 (.seq (.block 1 (.seq (K [(q 15 (.iaddr 2 (v 11) (v 13))),(q 16 (.load (some 2) (v 15))),(q 6 (.alloc true [(.int .i64 0), (.int .i64 0)])),⟨none, .store true 2 (v 6) (v 16), none, []⟩] [3, 4, 6, 11, 12, 13])
 (.seq (.seq (K [(q 17 (.faddr 0 (v 6))),(q 18 (.load none (v 17))),(J 19 4),(q 20 (.bin .gtr (v 18) (v 19)))] [3, 4, 6, 11, 12, 13, 20])
 (.cond (v 20) (.reg false [(J 21 3),(J 22 4),(q 23 (.faddr 0 (v 6))),(q 24 (.load none (v 23))),(q 25 (.bin .sub (v 24) (ci 1))),(q 26 (.build [(.int .i64 0), (.int .i64 0)] [(0, 1, (v 22)), (1, 1, (v 25))])),(q 27 (.buildRow true 2 1 [(.int .i64 0), (.int .i64 0)] [(0, (v 26))])),(q 28 (.append 2 16 (v 21) (v 27))),(J 3 28)] [3, 6, 11, 12, 13]) .skip))
 (.reg false [(q 29 (.faddr 1 (v 6))),(q 30 (.load none (v 29))),(q 31 (.bin .add (v 30) (ci 1))),(J 4 31)] [3, 4, 11, 12, 13]))))
 (.reg false [(q 32 (.bin .add (v 13) (ci 1))),(J 13 32)] [3, 4, 11, 12, 13]))))
def f91_c : VCode :=
 (.seq (K [(q 2 (.nilrow 2))] [0])
 (.seq (K [(q 3 (.nilrow 2))] [0, 3])
 (.seq (K [(q 4 (.mov (ci 0)))] [0, 3, 4])
 (.seq (.seq (K [(J 7 0),(q 8 (.call (cf 7) [(v 7)])),(q 9 (.build [(.int .i64 0), (.int .i64 0)] [(0, 1, (ci 1114112)), (1, 1, (ci 1114112))])),(q 10 (.buildRow true 2 1 [(.int .i64 0), (.int .i64 0)] [(0, (v 9))])),(q 11 (.append 2 16 (v 8) (v 10))),(q 12 (.len (v 11))),(q 13 (.mov (ci 0)))] [3, 4, 11, 12, 13])
 (.block 0 (.loop [3, 4, 11, 12, 13] f91_l0)))
 (.seq (K [(J 33 3),(J 2 33)] [2])
 .ret)))))
def f91 : VFn := ⟨1, 34, f91_c, [.t 2], true, []⟩
/- caliper/rx.of -/
def f92_l0 : VCode :=
 (.seq (.seq (K [(J 5 4),(q 6 (.bin .add (v 5) (ci 1))),(J 7 0),(q 8 (.len (v 7))),(q 9 (.bin .lss (v 6) (v 8)))] [0, 3, 4, 9])
 (.cond (v 9) .skip (.exit 0)))
 (.seq (.block 1 (.reg true [(J 12 3),(J 13 0),(J 14 4),(q 15 (.iaddr 1 (v 13) (v 14))),(q 16 (.load none (v 15))),(J 17 0),(J 18 4),(q 19 (.bin .add (v 18) (ci 1))),(q 20 (.iaddr 1 (v 17) (v 19))),(q 21 (.load none (v 20))),(q 22 (.build [(.int .i64 0), (.int .i64 0)] [(0, 1, (v 16)), (1, 1, (v 21))])),(q 23 (.buildRow true 2 1 [(.int .i64 0), (.int .i64 0)] [(0, (v 22))])),(q 24 (.append 2 16 (v 12) (v 23))),(J 3 24)] [0, 3, 4]))
 (.reg false [(J 10 4),(q 11 (.bin .add (v 10) (ci 2))),(J 4 11)] [0, 3, 4])))
def f92_c : VCode :=
 (.seq (K [(q 2 (.nilrow 2))] [0])
 (.seq (K [(q 3 (.nilrow 2))] [0, 3])
 (.seq (.seq (K [(q 4 (.mov (ci 0)))] [0, 3, 4])
 (.block 0 (.loop [0, 3, 4] f92_l0)))
 (.seq (K [(J 25 3),(J 2 25)] [2])
 .ret))))
def f92 : VFn := ⟨1, 26, f92_c, [.t 2], true, []⟩
/- (*caliper/rx.reader).class -/
def f93_l0 : VCode :=
 (.seq (.seq (K [(J 11 0),(q 12 (.call (cf 65) [(v 11), (.c (.str ⟨#[93]⟩))])),(q 13 (.un .not (v 12)))] [0, 3, 4, 13])
 (.cond (v 13) .skip (.exit 0)))
 (.block 1 (.seq (K [(J 15 0),(q 16 (.call (cf 98) [(v 15)])),(J 14 16),(q 17 (.extract (v 14) 0)),(q 18 (.extract (v 14) 1)),(J 5 17),(J 6 18)] [0, 3, 4, 5, 6])
 (.seq (.seq (K [(J 19 0),(q 20 (.call (cf 81) [(v 19)])),(q 21 (.bin .eql (v 20) (ci 45))),(J 22 21),(Z 23 0 22),(Y 24 (.nilck (v 23)) 22),(Y 25 (.faddr 0 (v 24)) 22),(Y 26 (.load none (v 25)) 22),(Y 27 (.len (v 26)) 22),(Y 28 (.bin .gtr (v 27) (ci 1)) 22),(Z 29 28 22),(Z 30 0 29),(Y 31 (.nilck (v 30)) 29),(Y 32 (.faddr 0 (v 31)) 29),(Y 33 (.load none (v 32)) 29),(Y 34 (.iaddr 1 (v 33) (ci 1)) 29),(Y 35 (.load none (v 34)) 29),(Y 36 (.bin .eql (v 35) (ci 93)) 29),(Y 37 (.pick (v 29) (v 36) (.c (.bool false))) 22),(Y 38 (.un .not (v 37)) 22),(q 39 (.pick (v 22) (v 38) (.c (.bool false))))] [0, 3, 4, 5, 6, 39])
 (.cond (v 39) (.seq (K [(J 40 0),(q 41 (.call (cf 95) [(v 40)]))] [0, 3, 4, 5, 6])
 (.seq (K [(J 43 0),(q 44 (.call (cf 98) [(v 43)])),(J 42 44),(q 45 (.extract (v 42) 0)),(q 46 (.extract (v 42) 1)),(J 7 45),(J 8 46)] [0, 3, 4, 5, 6, 7, 8])
 (.seq (.seq (B [(J 47 6),(q 48 (.un .not (v 47))),(J 49 48),(Z 50 8 49),(Y 51 (.un .not (v 50)) 49),(q 52 (.pick (v 49) (v 51) (.c (.bool false)))),(J 53 52),(Z 54 5 53),(Y 55 (.iaddr 2 (v 54) (ci 0)) 53),(Y 56 (.faddr 0 (v 55)) 53),(Y 57 (.load none (v 56)) 53),(Z 58 7 53),(Y 59 (.iaddr 2 (v 58) (ci 0)) 53),(Y 60 (.faddr 0 (v 59)) 53),(Y 61 (.load none (v 60)) 53),(Y 62 (.bin .leq (v 57) (v 61)) 53),(q 63 (.pick (v 53) (v 62) (.c (.bool false))))] [0, 3, 4, 5, 7, 63])
 (.reg false [(q 64 (.call (cf 45) [(v 63)]))] [0, 3, 4, 5, 7]))
 (.reg true [(J 65 5),(q 66 (.iaddr 2 (v 65) (ci 0))),(q 67 (.faddr 0 (v 66))),(q 68 (.load none (v 67))),(J 69 7),(q 70 (.iaddr 2 (v 69) (ci 0))),(q 71 (.faddr 0 (v 70))),(q 72 (.load none (v 71))),(q 73 (.buildRow false 1 2 [(.int .i64 0)] [(0, (v 68)), (1, (v 72))])),(q 74 (.call (cf 92) [(v 73)])),(J 5 74)] [0, 3, 4, 5])))) .skip))
 (.reg false [(J 75 4),(J 76 5),(q 77 (.append 2 16 (v 75) (v 76))),(J 4 77)] [0, 3, 4])))))
def f93_c : VCode :=
 (.seq (K [(q 2 (.nilrow 2))] [0])
 (.seq (K [(J 9 0),(q 10 (.call (cf 65) [(v 9), (.c (.str ⟨#[94]⟩))])),(J 3 10)] [0, 3])
 (.seq (K [(q 4 (.nilrow 2))] [0, 3, 4])
 (.seq (.block 0 (.loop [0, 3, 4] f93_l0))
 (.seq (.seq (K [(J 78 3)] [4, 78])
 (.cond (v 78) (.seq (K [(J 79 4),(q 80 (.call (cf 91) [(v 79)])),(J 2 80)] [2])
 .ret) .skip))
 (.seq (K [(J 81 4),(q 82 (.call (cf 7) [(v 81)])),(J 2 82)] [2])
 .ret))))))
def f93 : VFn := ⟨1, 83, f93_c, [.t 2], true, []⟩
/- (*caliper/rx.reader).escape -/
def f94_c : VCode :=
 (.seq (K [(q 2 (.nilrow 2)),(q 3 (.mov (.c (.bool false))))] [0])
 (.seq (K [(J 7 0),(q 8 (.call (cf 95) [(v 7)])),(J 4 8)] [0, 4])
 (.seq (K [(J 9 4),(J 5 9)] [0, 4, 5])
 (.seq (.block 0 (.seq (K [(J 14 4),(q 15 (.call (cf 80) [(v 14), (.c (.str ⟨#[100, 119, 115, 68, 87, 83]⟩))])),(J 13 15)] [0, 4, 5, 13])
 (.cond (v 13) (.seq (K [(J 16 4),(q 17 (.call (cf 99) [(v 16)])),(J 2 17),(q 3 (.mov (.c (.bool true))))] [2, 3])
 .ret) (.seq (K [(J 19 4),(q 20 (.call (cf 80) [(v 19), (.c (.str ⟨#[116, 110, 118, 102, 114]⟩))])),(J 18 20)] [0, 4, 5, 18])
 (.cond (v 18) (.reg false [(q 21 (.mkmap)),⟨none, .mapupd false [.int] (v 21) (ci 116) (ci 9), none, []⟩,⟨none, .mapupd false [.int] (v 21) (ci 110) (ci 10), none, []⟩,⟨none, .mapupd false [.int] (v 21) (ci 118) (ci 11), none, []⟩,⟨none, .mapupd false [.int] (v 21) (ci 102) (ci 12), none, []⟩,⟨none, .mapupd false [.int] (v 21) (ci 114) (ci 13), none, []⟩,(J 22 21),(J 23 4),(q 24 (.lookup false [.int] (.int .i64 0) (v 22) (v 23) false)),(J 5 24)] [5]) (.seq (K [(J 26 4),(q 27 (.bin .eql (v 26) (ci 48))),(J 25 27)] [0, 4, 5, 25])
 (.cond (v 25) (.seq (K [(J 28 0),(q 29 (.call (cf 81) [(v 28)])),(q 30 (.call (cf 80) [(v 29), (.c (.str ⟨#[48, 49, 50, 51, 52, 53, 54, 55, 56, 57]⟩))])),(q 31 (.un .not (v 30))),(q 32 (.call (cf 45) [(v 31)]))] [])
 (.reg false [(q 5 (.mov (ci 0)))] [5])) (.seq (K [(J 34 4),(q 35 (.bin .eql (v 34) (ci 99))),(J 33 35)] [0, 4, 5, 33])
 (.cond (v 33) (.seq (K [(J 36 0),(q 37 (.call (cf 95) [(v 36)])),(J 6 37)] [6])
 (.seq (K [(J 38 6),(q 39 (.bin .or (v 38) (ci 32))),(q 40 (.bin .geq (v 39) (ci 97))),(J 41 40),(Z 42 6 41),(Y 43 (.bin .or (v 42) (ci 32)) 41),(Y 44 (.bin .leq (v 43) (ci 122)) 41),(q 45 (.pick (v 41) (v 44) (.c (.bool false)))),(J 46 45),(Z 47 6 46),(Y 48 (.bin .lss (v 47) (ci 128)) 46),(q 49 (.pick (v 46) (v 48) (.c (.bool false)))),(q 50 (.call (cf 45) [(v 49)]))] [6])
 (.reg false [(J 51 6),(q 52 (.bin .and (v 51) (ci 31))),(J 5 52)] [5]))) (.seq (K [(J 54 4),(q 55 (.bin .eql (v 54) (ci 120))),(J 53 55)] [0, 4, 5, 53])
 (.cond (v 53) (.reg false [(J 56 0),(q 57 (.call (cf 100) [(v 56), (ci 2)])),(J 5 57)] [5]) (.seq (K [(J 59 4),(q 60 (.bin .eql (v 59) (ci 117))),(J 58 60)] [0, 4, 5, 58])
 (.cond (v 58) (.reg false [(J 61 0),(q 62 (.call (cf 101) [(v 61)])),(J 5 62)] [5]) (.reg false [(J 10 4),(q 11 (.call (cf 80) [(v 10), (.c (.str ⟨#[94, 36, 92, 46, 42, 43, 63, 40, 41, 91, 93, 123, 125, 124, 47]⟩))])),(q 12 (.call (cf 45) [(v 11)]))] [5]))))))))))))))
 (.seq (K [(J 63 5),(J 64 5),(q 65 (.buildRow false 1 2 [(.int .i64 0)] [(0, (v 63)), (1, (v 64))])),(q 66 (.call (cf 92) [(v 65)])),(J 2 66),(q 3 (.mov (.c (.bool false))))] [2, 3])
 .ret)))))
def f94 : VFn := ⟨1, 67, f94_c, [.t 2, .t 3], true, []⟩
/- (*caliper/rx.reader).next -/
def f95_c : VCode :=
 (.seq (K [(q 2 (.mov (ci 0)))] [0])
 (.seq (K [(J 4 0),(q 5 (.nilck (v 4))),(q 6 (.faddr 0 (v 5))),(q 7 (.load none (v 6))),(q 8 (.len (v 7))),(q 9 (.bin .gtr (v 8) (ci 0))),(q 10 (.call (cf 45) [(v 9)]))] [0])
 (.seq (K [(J 11 0),(q 12 (.nilck (v 11))),(q 13 (.faddr 0 (v 12))),(q 14 (.load none (v 13))),(q 15 (.iaddr 1 (v 14) (ci 0))),(q 16 (.load none (v 15))),(J 3 16)] [0, 3])
 (.seq (K [(J 17 0),(J 18 0),(q 19 (.nilck (v 18))),(q 20 (.faddr 0 (v 19))),(q 21 (.load none (v 20))),(q 22 (.sl 1 (v 21) (some (ci 1)) none none)),(q 23 (.nilck (v 17))),(q 24 (.faddr 0 (v 23))),⟨none, .store false 1 (v 24) (v 22), none, []⟩] [3])
 (.seq (K [(J 25 3),(J 2 25)] [2])
 .ret)))))
def f95 : VFn := ⟨1, 26, f95_c, [.t 2], true, []⟩
/- (*caliper/rx.reader).number -/
def f96_l0 : VCode :=
 (.seq (.seq (K [(J 16 5),(q 17 (.bin .geq (v 16) (ci 48))),(J 18 17),(Z 19 5 18),(Y 20 (.bin .leq (v 19) (ci 57)) 18),(q 21 (.pick (v 18) (v 20) (.c (.bool false))))] [0, 4, 5, 21])
 (.cond (v 21) .skip (.exit 0)))
 (.seq (.block 1 (.seq (K [(J 24 4),(q 25 (.bin .mul (v 24) (ci 10))),(J 26 5),(q 27 (.bin .add (v 25) (v 26))),(q 28 (.bin .sub (v 27) (ci 48))),(J 4 28)] [0, 4])
 (.seq (K [(J 29 4),(q 30 (.bin .leq (v 29) (ci 1000))),(q 31 (.call (cf 45) [(v 30)]))] [0, 4])
 (.reg false [(J 32 0),(q 33 (.call (cf 95) [(v 32)]))] [0, 4]))))
 (.reg false [(J 22 0),(q 23 (.call (cf 81) [(v 22)])),(J 5 23)] [0, 4, 5])))
def f96_c : VCode :=
 (.seq (K [(q 2 (.mov (ci 0)))] [0])
 (.seq (.seq (K [(J 6 0),(q 7 (.call (cf 81) [(v 6)])),(J 3 7)] [0, 3])
 (.seq (K [(J 8 3),(q 9 (.bin .lss (v 8) (ci 48))),(J 10 9),⟨(some 11), .mov (v 3), (some (10, false)), []⟩,⟨(some 12), .bin .gtr (v 11) (ci 57), (some (10, false)), []⟩,(q 13 (.pick (v 10) (.c (.bool true)) (v 12)))] [0, 13])
 (.cond (v 13) (.seq (K [(q 2 (.mov (ci (-1))))] [2])
 .ret) .skip)))
 (.seq (K [(q 4 (.mov (ci 0)))] [0, 4])
 (.seq (.seq (K [(J 14 0),(q 15 (.call (cf 81) [(v 14)])),(J 5 15)] [0, 4, 5])
 (.block 0 (.loop [0, 4, 5] f96_l0)))
 (.seq (K [(J 34 4),(J 2 34)] [2])
 .ret)))))
def f96 : VFn := ⟨1, 35, f96_c, [.t 2], true, []⟩
/- (*caliper/rx.reader).mark -/
def f98_c : VCode :=
 (.seq (K [(q 2 (.nilrow 2)),(q 3 (.mov (.c (.bool false))))] [0])
 (.seq (.block 0 (.seq (K [(J 6 0),(q 7 (.call (cf 65) [(v 6), (.c (.str ⟨#[92, 98]⟩))])),(J 5 7)] [0, 5])
 (.cond (v 5) (.seq (K [(q 8 (.buildRow false 1 2 [(.int .i64 0)] [(0, (ci 8)), (1, (ci 8))])),(q 9 (.call (cf 92) [(v 8)])),(J 2 9),(q 3 (.mov (.c (.bool false))))] [2, 3])
 .ret) (.seq (K [(J 11 0),(q 12 (.call (cf 65) [(v 11), (.c (.str ⟨#[92, 45]⟩))])),(J 10 12)] [0, 10])
 (.cond (v 10) (.seq (K [(q 13 (.buildRow false 1 2 [(.int .i64 0)] [(0, (ci 45)), (1, (ci 45))])),(q 14 (.call (cf 92) [(v 13)])),(J 2 14),(q 3 (.mov (.c (.bool false))))] [2, 3])
 .ret) (.seq (K [(J 16 0),(q 17 (.call (cf 65) [(v 16), (.c (.str ⟨#[92]⟩))])),(J 15 17)] [0, 15])
 (.cond (v 15) (.seq (K [(J 18 0),(q 19 (.call (cf 94) [(v 18)])),(q 20 (.extract (v 19) 0)),(q 21 (.extract (v 19) 1)),(J 2 20),(J 3 21)] [2, 3])
 .ret) .skip)))))))
 (.seq (K [(J 22 0),(q 23 (.call (cf 95) [(v 22)])),(J 4 23)] [4])
 (.seq (K [(J 24 4),(J 25 4),(q 26 (.buildRow false 1 2 [(.int .i64 0)] [(0, (v 24)), (1, (v 25))])),(q 27 (.call (cf 92) [(v 26)])),(J 2 27),(q 3 (.mov (.c (.bool false))))] [2, 3])
 .ret))))
def f98 : VFn := ⟨1, 28, f98_c, [.t 2, .t 3], true, []⟩
/- caliper/rx.kinds -/
def f99_c : VCode :=
 (.seq (K [(q 2 (.nilrow 2))] [0])
 (.seq (.seq (K [(J 3 0)] [0, 3])
 (.block 0 (.seq (K [(q 5 (.bin .eql (v 3) (ci 100))),(J 4 5)] [0, 3, 4])
 (.cond (v 4) (.seq (K [(q 6 (.buildRow false 1 2 [(.int .i64 0)] [(0, (ci 48)), (1, (ci 57))])),(q 7 (.call (cf 92) [(v 6)])),(J 2 7)] [2])
 .ret) (.seq (K [(q 9 (.bin .eql (v 3) (ci 119))),(J 8 9)] [0, 3, 8])
 (.cond (v 8) (.seq (K [(q 10 (.buildRow false 1 8 [(.int .i64 0)] [(0, (ci 48)), (1, (ci 57)), (2, (ci 65)), (3, (ci 90)), (4, (ci 95)), (5, (ci 95)), (6, (ci 97)), (7, (ci 122))])),(q 11 (.call (cf 92) [(v 10)])),(J 2 11)] [2])
 .ret) (.seq (K [(q 13 (.bin .eql (v 3) (ci 115))),(J 12 13)] [0, 12])
 (.cond (v 12) (.seq (K [(q 14 (.buildRow false 1 20 [(.int .i64 0)] [(0, (ci 9)), (1, (ci 13)), (2, (ci 32)), (3, (ci 32)), (4, (ci 160)), (5, (ci 160)), (6, (ci 5760)), (7, (ci 5760)), (8, (ci 8192)), (9, (ci 8202)), (10, (ci 8232)), (11, (ci 8233)), (12, (ci 8239)), (13, (ci 8239)), (14, (ci 8287)), (15, (ci 8287)), (16, (ci 12288)), (17, (ci 12288)), (18, (ci 65279)), (19, (ci 65279))])),(q 15 (.call (cf 92) [(v 14)])),(J 2 15)] [2])
 .ret) .skip))))))))
 (.seq (K [(J 16 0),(q 17 (.bin .or (v 16) (ci 32))),(q 18 (.call (cf 99) [(v 17)])),(q 19 (.call (cf 91) [(v 18)])),(J 2 19)] [2])
 .ret)))
def f99 : VFn := ⟨1, 20, f99_c, [.t 2], true, []⟩
/- (*caliper/rx.reader).hex -/
def f100_l0 : VCode :=
 (.seq (K [(q 9 (.bin .lss (v 8) (v 7)))] [0, 5, 7, 8, 9])
 (.seq (.cond (v 9) .skip (.exit 0))
 (.seq (.block 1 (.seq (K [(J 10 0),(q 11 (.call (cf 95) [(v 10)])),(J 6 11)] [0, 5, 6, 7, 8])
 (.seq (K [(J 12 6),(q 13 (.call (cf 80) [(v 12), (.c (.str ⟨#[48, 49, 50, 51, 52, 53, 54, 55, 56, 57, 97, 98, 99, 100, 101, 102, 65, 66, 67, 68, 69, 70]⟩))])),(q 14 (.call (cf 45) [(v 13)]))] [0, 5, 6, 7, 8])
 (.seq (K [(J 15 5),(q 16 (.bin .shl (v 15) (.c (.int .u64 4)))),(J 17 6),(q 18 (.bin .and (v 17) (ci 15))),(q 19 (.bin .or (v 16) (v 18))),(J 5 19)] [0, 5, 6, 7, 8])
 (.seq (K [(J 20 6),(q 21 (.bin .gtr (v 20) (ci 57)))] [0, 5, 7, 8, 21])
 (.cond (v 21) (.reg false [(J 22 5),(q 23 (.bin .add (v 22) (ci 9))),(J 5 23)] [0, 5, 7, 8]) .skip))))))
 (.reg false [(q 24 (.bin .add (v 8) (ci 1))),(J 8 24)] [0, 5, 7, 8]))))
def f100_c : VCode :=
 (.seq (K [(q 4 (.mov (ci 0)))] [0, 1])
 (.seq (K [(q 5 (.mov (ci 0)))] [0, 1, 5])
 (.seq (.seq (K [(J 7 1),(q 8 (.mov (ci 0)))] [0, 5, 7, 8])
 (.block 0 (.loop [0, 5, 7, 8] f100_l0)))
 (.seq (K [(J 25 5),(J 4 25)] [4])
 .ret))))
def f100 : VFn := ⟨2, 26, f100_c, [.t 4], true, []⟩
/- (*caliper/rx.reader).unicode -/
def f101_l0 : VCode :=
 (.seq (.seq (K [(J 13 0),(q 14 (.call (cf 65) [(v 13), (.c (.str ⟨#[125]⟩))])),(q 15 (.un .not (v 14)))] [0, 3, 15])
 (.cond (v 15) .skip (.exit 0)))
 (.block 1 (.reg false [(J 16 3),(q 17 (.bin .shl (v 16) (.c (.int .u64 4)))),(J 18 0),(q 19 (.call (cf 100) [(v 18), (ci 1)])),(q 20 (.bin .or (v 17) (v 19))),(q 21 (.min [(v 20), (ci 1114112)])),(J 3 21)] [0, 3])))
def f101_c : VCode :=
 (.seq (K [(q 2 (.mov (ci 0)))] [0])
 (.seq (.seq (K [(J 9 0),(q 10 (.call (cf 65) [(v 9), (.c (.str ⟨#[123]⟩))]))] [0, 10])
 (.cond (v 10) (.seq (K [(J 11 0),(q 12 (.call (cf 100) [(v 11), (ci 1)])),(J 3 12)] [0, 3])
 (.seq (.block 0 (.loop [0, 3] f101_l0))
 (.seq (K [(J 23 3),(q 24 (.call (cf 102) [(.c (.sl 0 [] true)), (v 23)])),(J 22 24),(q 25 (.extract (v 22) 0)),(q 26 (.extract (v 22) 1)),(J 4 25),(J 5 26)] [3, 5])
 (.seq (K [(J 27 5),(q 28 (.bin .eql (v 27) (ci 0))),(q 29 (.call (cf 45) [(v 28)]))] [3])
 (.seq (K [(J 30 3),(J 2 30)] [2])
 .ret))))) .skip))
 (.seq (K [(J 31 0),(q 32 (.call (cf 100) [(v 31), (ci 4)])),(J 6 32)] [0, 6])
 (.seq (.seq (K [(J 33 6),(q 34 (.bin .lss (v 33) (ci 55296))),(J 35 34),⟨(some 36), .mov (v 6), (some (35, false)), []⟩,⟨(some 37), .bin .gtr (v 36) (ci 57343), (some (35, false)), []⟩,(q 38 (.pick (v 35) (.c (.bool true)) (v 37)))] [0, 6, 38])
 (.cond (v 38) (.seq (K [(J 39 6),(J 2 39)] [2])
 .ret) .skip))
 (.seq (K [(J 40 0),(q 41 (.call (cf 65) [(v 40), (.c (.str ⟨#[92, 117]⟩))])),(q 42 (.call (cf 45) [(v 41)]))] [0, 6])
 (.seq (K [(J 44 6),(J 45 0),(q 46 (.call (cf 100) [(v 45), (ci 4)])),(q 47 (.call (cf 103) [(v 44), (v 46)])),(J 43 47),(q 48 (.extract (v 43) 0)),(q 49 (.extract (v 43) 1)),(J 7 48),(J 8 49)] [7, 8])
 (.seq (K [(J 50 8),(q 51 (.bin .eql (v 50) (ci 0))),(q 52 (.call (cf 45) [(v 51)]))] [7])
 (.seq (K [(J 53 7),(J 2 53)] [2])
 .ret))))))))
def f101 : VFn := ⟨1, 54, f101_c, [.t 2], true, []⟩
/- caliper/utf.Put -/
def f102_c : VCode :=
 (.seq (K [(q 4 (.nilrow 1)),(q 5 (.mov (ci 0)))] [0, 1])
 (.seq (.seq (K [(J 7 1),(q 8 (.call (cf 104) [(v 7)])),(q 9 (.un .not (v 8)))] [0, 1, 9])
 (.cond (v 9) (.seq (K [(q 4 (.nilrow 1)),(q 5 (.mov (ci 2)))] [4, 5])
 .ret) .skip))
 (.seq (K [(q 10 (.build [(.int .i64 0), (.int .i64 0), (.int .i64 0)] [(0, 1, (ci 128)), (1, 1, (ci 2048)), (2, 1, (ci 65536))])),(q 6 (.alloc true [(.int .i64 0), (.int .i64 0), (.int .i64 0)])),⟨none, .store true 3 (v 6) (v 10), none, []⟩] [0, 1, 6])
 (.seq (.block 0 (.seq (K [(J 12 1),(q 13 (.iaddra 3 1 (v 6) (ci 0))),(q 14 (.load none (v 13))),(q 15 (.bin .lss (v 12) (v 14))),(J 11 15)] [0, 1, 6, 11])
 (.cond (v 11) (.seq (K [(J 16 0),(J 17 1),(q 18 (.conv (.toInt .u8) (v 17))),(q 19 (.buildRow false 1 1 [(.int .u8 0)] [(0, (v 18))])),(q 20 (.call (cf 105) [(v 16), (v 19)])),(J 4 20),(q 5 (.mov (ci 0)))] [4, 5])
 .ret) (.seq (K [(J 22 1),(q 23 (.iaddra 3 1 (v 6) (ci 1))),(q 24 (.load none (v 23))),(q 25 (.bin .lss (v 22) (v 24))),(J 21 25)] [0, 1, 6, 21])
 (.cond (v 21) (.seq (K [(J 26 0),(J 27 1),(q 28 (.bin .shr (v 27) (.c (.int .u64 6)))),(q 29 (.bin .or (ci 192) (v 28))),(q 30 (.conv (.toInt .u8) (v 29))),(J 31 1),(q 32 (.call (cf 106) [(v 31), (ci 0)])),(q 33 (.buildRow false 1 2 [(.int .u8 0)] [(0, (v 30)), (1, (v 32))])),(q 34 (.call (cf 105) [(v 26), (v 33)])),(J 4 34),(q 5 (.mov (ci 0)))] [4, 5])
 .ret) (.seq (K [(J 36 1),(q 37 (.iaddra 3 1 (v 6) (ci 2))),(q 38 (.load none (v 37))),(q 39 (.bin .lss (v 36) (v 38))),(J 35 39)] [0, 1, 35])
 (.cond (v 35) (.seq (K [(J 40 0),(J 41 1),(q 42 (.bin .shr (v 41) (.c (.int .u64 12)))),(q 43 (.bin .or (ci 224) (v 42))),(q 44 (.conv (.toInt .u8) (v 43))),(J 45 1),(q 46 (.call (cf 106) [(v 45), (ci 6)])),(J 47 1),(q 48 (.call (cf 106) [(v 47), (ci 0)])),(q 49 (.buildRow false 1 3 [(.int .u8 0)] [(0, (v 44)), (1, (v 46)), (2, (v 48))])),(q 50 (.call (cf 105) [(v 40), (v 49)])),(J 4 50),(q 5 (.mov (ci 0)))] [4, 5])
 .ret) .skip)))))))
 (.seq (K [(J 51 0),(J 52 1),(q 53 (.bin .shr (v 52) (.c (.int .u64 18)))),(q 54 (.bin .or (ci 240) (v 53))),(q 55 (.conv (.toInt .u8) (v 54))),(J 56 1),(q 57 (.call (cf 106) [(v 56), (ci 12)])),(J 58 1),(q 59 (.call (cf 106) [(v 58), (ci 6)])),(J 60 1),(q 61 (.call (cf 106) [(v 60), (ci 0)])),(q 62 (.buildRow false 1 4 [(.int .u8 0)] [(0, (v 55)), (1, (v 57)), (2, (v 59)), (3, (v 61))])),(q 63 (.call (cf 105) [(v 51), (v 62)])),(J 4 63),(q 5 (.mov (ci 0)))] [4, 5])
 .ret)))))
def f102 : VFn := ⟨2, 64, f102_c, [.t 4, .t 5], true, []⟩
/- caliper/utf.Pair -/
def f103_c : VCode :=
 (.seq (K [(q 4 (.mov (ci 0))),(q 5 (.mov (ci 0)))] [0, 1])
 (.seq (.seq (K [(J 8 0),(q 9 (.bin .lss (v 8) (ci 55296))),(J 10 9),⟨(some 11), .mov (v 0), (some (10, false)), []⟩,⟨(some 12), .bin .geq (v 11) (ci 56320), (some (10, false)), []⟩,(q 13 (.pick (v 10) (.c (.bool true)) (v 12))),(J 14 13),⟨(some 15), .mov (v 1), (some (14, false)), []⟩,⟨(some 16), .bin .lss (v 15) (ci 56320), (some (14, false)), []⟩,(q 17 (.pick (v 14) (.c (.bool true)) (v 16))),(J 18 17),⟨(some 19), .mov (v 1), (some (18, false)), []⟩,⟨(some 20), .bin .geq (v 19) (ci 57344), (some (18, false)), []⟩,(q 21 (.pick (v 18) (.c (.bool true)) (v 20)))] [0, 1, 21])
 (.cond (v 21) (.seq (K [(q 4 (.mov (ci 0))),(q 5 (.mov (ci 11)))] [4, 5])
 .ret) .skip))
 (.seq (K [(J 22 0),(q 23 (.bin .sub (v 22) (ci 55296))),(J 24 1),(q 25 (.bin .sub (v 24) (ci 55296))),(q 26 (.bin .sub (v 25) (ci 1024))),(J 6 23),(J 7 26)] [6, 7])
 (.seq (K [(J 27 6),(q 28 (.bin .shl (v 27) (.c (.int .u64 10)))),(J 29 7),(q 30 (.bin .or (v 28) (v 29))),(q 31 (.bin .add (ci 65536) (v 30))),(J 4 31),(q 5 (.mov (ci 0)))] [4, 5])
 .ret))))
def f103 : VFn := ⟨2, 32, f103_c, [.t 4, .t 5], true, []⟩
/- caliper/utf.scalar -/
def f104_c : VCode :=
 (.seq (K [(q 2 (.mov (.c (.bool false))))] [0])
 (.seq (K [(J 3 0),(q 4 (.bin .geq (v 3) (ci 0))),(J 5 4),(Z 6 0 5),(Y 7 (.bin .leq (v 6) (ci 1114111)) 5),(q 8 (.pick (v 5) (v 7) (.c (.bool false)))),(J 9 8),(Z 10 0 9),(Y 11 (.bin .lss (v 10) (ci 55296)) 9),(Z 12 11 9),⟨(some 13), .mov (v 0), (some (12, false)), []⟩,⟨(some 14), .bin .geq (v 13) (ci 57344), (some (12, false)), []⟩,(Y 15 (.pick (v 12) (.c (.bool true)) (v 14)) 9),(q 16 (.pick (v 9) (v 15) (.c (.bool false)))),(J 2 16)] [2])
 .ret))
def f104 : VFn := ⟨1, 17, f104_c, [.t 2], true, []⟩
/- caliper/utf.joined -/
def f105_c : VCode :=
 (.seq (K [(q 4 (.nilrow 1))] [0, 1])
 (.seq (K [(J 5 0),(q 6 (.len (v 5))),(J 7 1),(q 8 (.len (v 7))),(q 9 (.bin .add (v 6) (v 8))),(q 10 (.mkslice false 1 1 [(.int .u8 0)] (ci 0) (v 9))),(J 11 0),(q 12 (.append 1 1 (v 10) (v 11))),(J 13 1),(q 14 (.append 1 1 (v 12) (v 13))),(J 4 14)] [4])
 .ret))
def f105 : VFn := ⟨2, 15, f105_c, [.t 4], true, []⟩
/- caliper/utf.tail -/
def f106_c : VCode :=
 (.seq (K [(q 4 (.mov (.c (.int .u8 0))))] [0, 1])
 (.seq (K [(J 5 0),(J 6 1),(q 7 (.bin .shr (v 5) (v 6))),(q 8 (.bin .and (v 7) (ci 63))),(q 9 (.bin .or (ci 128) (v 8))),(q 10 (.conv (.toInt .u8) (v 9))),(J 4 10)] [4])
 .ret))
def f106 : VFn := ⟨2, 11, f106_c, [.t 4], true, []⟩
def tab : FuncId → Option VFn := fun f => match f with
 | 3 => some f3
 | 7 => some f7
 | 8 => some f8
 | 9 => some f9
 | 10 => some f10
 | 11 => some f11
 | 12 => some f12
 | 14 => some f14
 | 15 => some f15
 | 16 => some f16
 | 17 => some f17
 | 18 => some f18
 | 19 => some f19
 | 20 => some f20
 | 21 => some f21
 | 22 => some f22
 | 23 => some f23
 | 25 => some f25
 | 26 => some f26
 | 27 => some f27
 | 28 => some f28
 | 29 => some f29
 | 30 => some f30
 | 31 => some f31
 | 32 => some f32
 | 33 => some f33
 | 34 => some f34
 | 35 => some f35
 | 36 => some f36
 | 37 => some f37
 | 38 => some f38
 | 39 => some f39
 | 40 => some f40
 | 41 => some f41
 | 42 => some f42
 | 43 => some f43
 | 44 => some f44
 | 45 => some f45
 | 46 => some f46
 | 47 => some f47
 | 48 => some f48
 | 49 => some f49
 | 50 => some f50
 | 51 => some f51
 | 52 => some f52
 | 53 => some f53
 | 54 => some f54
 | 55 => some f55
 | 56 => some f56
 | 57 => some f57
 | 58 => some f58
 | 59 => some f59
 | 60 => some f60
 | 61 => some f61
 | 62 => some f62
 | 63 => some f63
 | 64 => some f64
 | 65 => some f65
 | 66 => some f66
 | 67 => some f67
 | 68 => some f68
 | 69 => some f69
 | 70 => some f70
 | 71 => some f71
 | 72 => some f72
 | 73 => some f73
 | 74 => some f74
 | 75 => some f75
 | 76 => some f76
 | 77 => some f77
 | 78 => some f78
 | 79 => some f79
 | 80 => some f80
 | 81 => some f81
 | 82 => some f82
 | 83 => some f83
 | 84 => some f84
 | 85 => some f85
 | 86 => some f86
 | 87 => some f87
 | 88 => some f88
 | 89 => some f89
 | 90 => some f90
 | 91 => some f91
 | 92 => some f92
 | 93 => some f93
 | 94 => some f94
 | 95 => some f95
 | 96 => some f96
 | 98 => some f98
 | 99 => some f99
 | 100 => some f100
 | 101 => some f101
 | 102 => some f102
 | 103 => some f103
 | 104 => some f104
 | 105 => some f105
 | 106 => some f106
 | _ => none
theorem f3_ok : lowAt Try.prog [] true [] 3 = some f3 := by kernel_rfl
theorem f7_ok : lowAt Try.prog [] true [] 7 = some f7 := by kernel_rfl
theorem f8_ok : lowAt Try.prog [(6, (8, (0, 4)))] true [] 8 = some f8 := by kernel_rfl
theorem f9_ok : lowAt Try.prog [] true [] 9 = some f9 := by kernel_rfl
theorem f10_ok : lowAt Try.prog [] true [] 10 = some f10 := by kernel_rfl
theorem f11_ok : lowAt Try.prog [] true [] 11 = some f11 := by kernel_rfl
theorem f12_ok : lowAt Try.prog [] true [] 12 = some f12 := by kernel_rfl
theorem f14_ok : lowAt Try.prog [(4, (8, (0, 1)))] true [] 14 = some f14 := by kernel_rfl
theorem f15_ok : lowAt Try.prog [] false [0] 15 = some f15 := by kernel_rfl
theorem f16_ok : lowAt Try.prog [] true [] 16 = some f16 := by kernel_rfl
theorem f17_ok : lowAt Try.prog [] true [] 17 = some f17 := by kernel_rfl
theorem f18_ok : lowAt Try.prog [] true [] 18 = some f18 := by kernel_rfl
theorem f19_ok : lowAt Try.prog [] true [] 19 = some f19 := by kernel_rfl
theorem f20_ok : lowAt Try.prog [] true [] 20 = some f20 := by kernel_rfl
theorem f21_ok : lowAt Try.prog [] true [] 21 = some f21 := by kernel_rfl
theorem f22_ok : lowAt Try.prog [] true [] 22 = some f22 := by kernel_rfl
theorem f23_ok : lowAt Try.prog [] true [] 23 = some f23 := by kernel_rfl
theorem f25_ok : lowAt Try.prog [] true [] 25 = some f25 := by kernel_rfl
theorem f26_ok : lowAt Try.prog [] true [] 26 = some f26 := by kernel_rfl
theorem f27_ok : lowAt Try.prog [] true [] 27 = some f27 := by kernel_rfl
theorem f28_ok : lowAt Try.prog [] true [] 28 = some f28 := by kernel_rfl
theorem f29_ok : lowAt Try.prog [] false [0] 29 = some f29 := by kernel_rfl
theorem f30_ok : lowAt Try.prog [] true [] 30 = some f30 := by kernel_rfl
theorem f31_ok : lowAt Try.prog [] true [] 31 = some f31 := by kernel_rfl
theorem f32_ok : lowAt Try.prog [] true [] 32 = some f32 := by kernel_rfl
theorem f33_ok : lowAt Try.prog [] true [] 33 = some f33 := by kernel_rfl
theorem f34_ok : lowAt Try.prog [] false [] 34 = some f34 := by kernel_rfl
theorem f35_ok : lowAt Try.prog [] false [] 35 = some f35 := by kernel_rfl
theorem f36_ok : lowAt Try.prog [] true [] 36 = some f36 := by kernel_rfl
theorem f37_ok : lowAt Try.prog [] true [] 37 = some f37 := by kernel_rfl
theorem f38_ok : lowAt Try.prog [] true [] 38 = some f38 := by kernel_rfl
theorem f39_ok : lowAt Try.prog [] true [] 39 = some f39 := by kernel_rfl
theorem f40_ok : lowAt Try.prog [] true [] 40 = some f40 := by kernel_rfl
theorem f41_ok : lowAt Try.prog [] true [] 41 = some f41 := by kernel_rfl
theorem f42_ok : lowAt Try.prog [] false [] 42 = some f42 := by kernel_rfl
theorem f43_ok : lowAt Try.prog [] true [] 43 = some f43 := by kernel_rfl
theorem f44_ok : lowAt Try.prog [] true [] 44 = some f44 := by kernel_rfl
theorem f45_ok : lowAt Try.prog [] true [] 45 = some f45 := by kernel_rfl
theorem f46_ok : lowAt Try.prog [] true [] 46 = some f46 := by kernel_rfl
theorem f47_ok : lowAt Try.prog [] false [0] 47 = some f47 := by kernel_rfl
theorem f48_ok : lowAt Try.prog [] false [0] 48 = some f48 := by kernel_rfl
theorem f49_ok : lowAt Try.prog [] false [0] 49 = some f49 := by kernel_rfl
theorem f50_ok : lowAt Try.prog [] false [0] 50 = some f50 := by kernel_rfl
theorem f51_ok : lowAt Try.prog [] false [0] 51 = some f51 := by kernel_rfl
theorem f52_ok : lowAt Try.prog [] false [0] 52 = some f52 := by kernel_rfl
theorem f53_ok : lowAt Try.prog [] false [0] 53 = some f53 := by kernel_rfl
theorem f54_ok : lowAt Try.prog [] false [0] 54 = some f54 := by kernel_rfl
theorem f55_ok : lowAt Try.prog [] true [] 55 = some f55 := by kernel_rfl
theorem f56_ok : lowAt Try.prog [] true [] 56 = some f56 := by kernel_rfl
theorem f57_ok : lowAt Try.prog [] true [] 57 = some f57 := by kernel_rfl
theorem f58_ok : lowAt Try.prog [] true [] 58 = some f58 := by kernel_rfl
theorem f59_ok : lowAt Try.prog [] true [] 59 = some f59 := by kernel_rfl
theorem f60_ok : lowAt Try.prog [] true [] 60 = some f60 := by kernel_rfl
theorem f61_ok : lowAt Try.prog [(1, (5, (0, 0)))] true [] 61 = some f61 := by kernel_rfl
theorem f62_ok : lowAt Try.prog [] true [] 62 = some f62 := by kernel_rfl
theorem f63_ok : lowAt Try.prog [] true [] 63 = some f63 := by kernel_rfl
theorem f64_ok : lowAt Try.prog [] true [] 64 = some f64 := by kernel_rfl
theorem f65_ok : lowAt Try.prog [] true [] 65 = some f65 := by kernel_rfl
theorem f66_ok : lowAt Try.prog [] true [] 66 = some f66 := by kernel_rfl
theorem f67_ok : lowAt Try.prog [] true [] 67 = some f67 := by kernel_rfl
theorem f68_ok : lowAt Try.prog [] true [] 68 = some f68 := by kernel_rfl
theorem f69_ok : lowAt Try.prog [] true [] 69 = some f69 := by kernel_rfl
theorem f70_ok : lowAt Try.prog [] false [0] 70 = some f70 := by kernel_rfl
theorem f71_ok : lowAt Try.prog [] true [] 71 = some f71 := by kernel_rfl
theorem f72_ok : lowAt Try.prog [] true [] 72 = some f72 := by kernel_rfl
theorem f73_ok : lowAt Try.prog [] false [0] 73 = some f73 := by kernel_rfl
theorem f74_ok : lowAt Try.prog [] false [0] 74 = some f74 := by kernel_rfl
theorem f75_ok : lowAt Try.prog [] true [] 75 = some f75 := by kernel_rfl
theorem f76_ok : lowAt Try.prog [] true [] 76 = some f76 := by kernel_rfl
theorem f77_ok : lowAt Try.prog [] true [] 77 = some f77 := by kernel_rfl
theorem f78_ok : lowAt Try.prog [] true [] 78 = some f78 := by kernel_rfl
theorem f79_ok : lowAt Try.prog [] true [] 79 = some f79 := by kernel_rfl
theorem f80_ok : lowAt Try.prog [] true [] 80 = some f80 := by kernel_rfl
theorem f81_ok : lowAt Try.prog [] true [] 81 = some f81 := by kernel_rfl
theorem f82_ok : lowAt Try.prog [] true [] 82 = some f82 := by kernel_rfl
theorem f83_ok : lowAt Try.prog [] true [] 83 = some f83 := by kernel_rfl
theorem f84_ok : lowAt Try.prog [] false [0] 84 = some f84 := by kernel_rfl
theorem f85_ok : lowAt Try.prog [] true [] 85 = some f85 := by kernel_rfl
theorem f86_ok : lowAt Try.prog [] true [] 86 = some f86 := by kernel_rfl
theorem f87_ok : lowAt Try.prog [] true [] 87 = some f87 := by kernel_rfl
theorem f88_ok : lowAt Try.prog [] true [] 88 = some f88 := by kernel_rfl
theorem f89_ok : lowAt Try.prog [] true [] 89 = some f89 := by kernel_rfl
theorem f90_ok : lowAt Try.prog [] true [] 90 = some f90 := by kernel_rfl
theorem f91_ok : lowAt Try.prog [] true [] 91 = some f91 := by kernel_rfl
theorem f92_ok : lowAt Try.prog [] true [] 92 = some f92 := by kernel_rfl
theorem f93_ok : lowAt Try.prog [] true [] 93 = some f93 := by kernel_rfl
theorem f94_ok : lowAt Try.prog [] true [] 94 = some f94 := by kernel_rfl
theorem f95_ok : lowAt Try.prog [] true [] 95 = some f95 := by kernel_rfl
theorem f96_ok : lowAt Try.prog [] true [] 96 = some f96 := by kernel_rfl
theorem f98_ok : lowAt Try.prog [] true [] 98 = some f98 := by kernel_rfl
theorem f99_ok : lowAt Try.prog [] true [] 99 = some f99 := by kernel_rfl
theorem f100_ok : lowAt Try.prog [] true [] 100 = some f100 := by kernel_rfl
theorem f101_ok : lowAt Try.prog [] true [] 101 = some f101 := by kernel_rfl
theorem f102_ok : lowAt Try.prog [] true [] 102 = some f102 := by kernel_rfl
theorem f103_ok : lowAt Try.prog [] true [] 103 = some f103 := by kernel_rfl
theorem f104_ok : lowAt Try.prog [] true [] 104 = some f104 := by kernel_rfl
theorem f105_ok : lowAt Try.prog [] true [] 105 = some f105 := by kernel_rfl
theorem f106_ok : lowAt Try.prog [] true [] 106 = some f106 := by kernel_rfl
theorem tab_ok : TableOk Try.prog tab := by
 intro f vf h
 unfold tab at h
 split at h
 · cases h; exact lowAt_ok f3_ok
 · cases h; exact lowAt_ok f7_ok
 · cases h; exact lowAt_ok f8_ok
 · cases h; exact lowAt_ok f9_ok
 · cases h; exact lowAt_ok f10_ok
 · cases h; exact lowAt_ok f11_ok
 · cases h; exact lowAt_ok f12_ok
 · cases h; exact lowAt_ok f14_ok
 · cases h; exact lowAt_ok f15_ok
 · cases h; exact lowAt_ok f16_ok
 · cases h; exact lowAt_ok f17_ok
 · cases h; exact lowAt_ok f18_ok
 · cases h; exact lowAt_ok f19_ok
 · cases h; exact lowAt_ok f20_ok
 · cases h; exact lowAt_ok f21_ok
 · cases h; exact lowAt_ok f22_ok
 · cases h; exact lowAt_ok f23_ok
 · cases h; exact lowAt_ok f25_ok
 · cases h; exact lowAt_ok f26_ok
 · cases h; exact lowAt_ok f27_ok
 · cases h; exact lowAt_ok f28_ok
 · cases h; exact lowAt_ok f29_ok
 · cases h; exact lowAt_ok f30_ok
 · cases h; exact lowAt_ok f31_ok
 · cases h; exact lowAt_ok f32_ok
 · cases h; exact lowAt_ok f33_ok
 · cases h; exact lowAt_ok f34_ok
 · cases h; exact lowAt_ok f35_ok
 · cases h; exact lowAt_ok f36_ok
 · cases h; exact lowAt_ok f37_ok
 · cases h; exact lowAt_ok f38_ok
 · cases h; exact lowAt_ok f39_ok
 · cases h; exact lowAt_ok f40_ok
 · cases h; exact lowAt_ok f41_ok
 · cases h; exact lowAt_ok f42_ok
 · cases h; exact lowAt_ok f43_ok
 · cases h; exact lowAt_ok f44_ok
 · cases h; exact lowAt_ok f45_ok
 · cases h; exact lowAt_ok f46_ok
 · cases h; exact lowAt_ok f47_ok
 · cases h; exact lowAt_ok f48_ok
 · cases h; exact lowAt_ok f49_ok
 · cases h; exact lowAt_ok f50_ok
 · cases h; exact lowAt_ok f51_ok
 · cases h; exact lowAt_ok f52_ok
 · cases h; exact lowAt_ok f53_ok
 · cases h; exact lowAt_ok f54_ok
 · cases h; exact lowAt_ok f55_ok
 · cases h; exact lowAt_ok f56_ok
 · cases h; exact lowAt_ok f57_ok
 · cases h; exact lowAt_ok f58_ok
 · cases h; exact lowAt_ok f59_ok
 · cases h; exact lowAt_ok f60_ok
 · cases h; exact lowAt_ok f61_ok
 · cases h; exact lowAt_ok f62_ok
 · cases h; exact lowAt_ok f63_ok
 · cases h; exact lowAt_ok f64_ok
 · cases h; exact lowAt_ok f65_ok
 · cases h; exact lowAt_ok f66_ok
 · cases h; exact lowAt_ok f67_ok
 · cases h; exact lowAt_ok f68_ok
 · cases h; exact lowAt_ok f69_ok
 · cases h; exact lowAt_ok f70_ok
 · cases h; exact lowAt_ok f71_ok
 · cases h; exact lowAt_ok f72_ok
 · cases h; exact lowAt_ok f73_ok
 · cases h; exact lowAt_ok f74_ok
 · cases h; exact lowAt_ok f75_ok
 · cases h; exact lowAt_ok f76_ok
 · cases h; exact lowAt_ok f77_ok
 · cases h; exact lowAt_ok f78_ok
 · cases h; exact lowAt_ok f79_ok
 · cases h; exact lowAt_ok f80_ok
 · cases h; exact lowAt_ok f81_ok
 · cases h; exact lowAt_ok f82_ok
 · cases h; exact lowAt_ok f83_ok
 · cases h; exact lowAt_ok f84_ok
 · cases h; exact lowAt_ok f85_ok
 · cases h; exact lowAt_ok f86_ok
 · cases h; exact lowAt_ok f87_ok
 · cases h; exact lowAt_ok f88_ok
 · cases h; exact lowAt_ok f89_ok
 · cases h; exact lowAt_ok f90_ok
 · cases h; exact lowAt_ok f91_ok
 · cases h; exact lowAt_ok f92_ok
 · cases h; exact lowAt_ok f93_ok
 · cases h; exact lowAt_ok f94_ok
 · cases h; exact lowAt_ok f95_ok
 · cases h; exact lowAt_ok f96_ok
 · cases h; exact lowAt_ok f98_ok
 · cases h; exact lowAt_ok f99_ok
 · cases h; exact lowAt_ok f100_ok
 · cases h; exact lowAt_ok f101_ok
 · cases h; exact lowAt_ok f102_ok
 · cases h; exact lowAt_ok f103_ok
 · cases h; exact lowAt_ok f104_ok
 · cases h; exact lowAt_ok f105_ok
 · cases h; exact lowAt_ok f106_ok
 · cases h
theorem d24_ok : lowDAt Try.prog 24 43 = some d24 := by kernel_rfl
end Go.Proofs.Ytjnfkifdgojdaaa.V
