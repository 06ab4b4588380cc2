/- The functions of this seat, as the evaluator has them (printed by wip/v/VG.lean). -/
import Derived.Test.YtpfbeeikgbijoaaGreatDoorChecked
import Derived.Test.YtpfbeeikgbijoaaGreatDoorV26
import Derived.Test.YtpfbeeikgbijoaaGreatDoorV35
namespace Go.Proofs.YtpfbeeikgbijoaaGreatDoor.V
open Go
set_option linter.unusedVariables false
set_option linter.unusedSimpArgs false
set_option linter.unusedSectionVars false
/- gosem.cut.init -/
/- caliper/caliperlaw17.PlainSimplifies -/
/- caliper/caliperlaw17.PlainForms -/
def f4_c : VCode :=
  (.seq (.reg false [⟨(some 1), .box true 3 (.t 0), none, []⟩,
    ⟨(some 2), .mov (.c (.bool false)), none, []⟩] [1])
  (.seq (.reg true [⟨(some 3), .load (some 3) (.t 1), none, []⟩,
    ⟨(some 4), .call (.c (.func (.func 16) [] [])) [(.t 3)], none, []⟩,
    ⟨(some 5), .load (some 3) (.t 1), none, []⟩,
    ⟨(some 6), .call (.c (.func (.func 17) [] [])) [(.t 5)], none, []⟩,
    ⟨(some 7), .eqb false (.t 4) (.t 6), none, []⟩,
    ⟨(some 8), .mov (.t 7), none, []⟩,
    ⟨(some 9), .call (.c (.func (.func 15) [] [])) [], (some (8, true)), []⟩,
    ⟨(some 10), .pick (.t 8) (.t 9) (.c (.bool false)), none, []⟩,
    ⟨(some 2), .mov (.t 10), none, []⟩] [2])
  .ret))
def f4 : VFn := ⟨1, 11, f4_c, [.t 2], true, []⟩
/- caliper/caliperlaw17.PlainEnds -/
/- caliper/caliperlaw17.PlainStays -/
/- caliper/caliperlaw17.PlainSame -/
/- caliper/plain.Once -/
def f8_c : VCode :=
  (.seq (.reg false [⟨(some 1), .box true 3 (.t 0), none, []⟩,
    ⟨(some 2), .alloc true [(.sl 0 [] true), (.sl 0 [] true), (.int .i64 0)], none, []⟩,
    ⟨(some 3), .mov (.c (.int .i64 0)), none, []⟩] [1, 2])
  (.seq (.reg false [⟨(some 8), .load (some 3) (.t 1), none, []⟩,
    ⟨(some 9), .call (.c (.func (.func 20) [] [])) [(.t 8)], none, []⟩,
    ⟨(some 7), .mov (.t 9), none, []⟩,
    ⟨(some 10), .extract (.t 7) 0, none, []⟩,
    ⟨(some 11), .extract (.t 7) 1, none, []⟩,
    ⟨(some 12), .extract (.t 7) 2, none, []⟩,
    ⟨(some 4), .alloc true [(.sl 0 [] true), (.sl 0 [] true), (.int .i64 0)], none, []⟩,
    ⟨none, .store true 3 (.t 4) (.t 10), none, []⟩,
    ⟨(some 5), .mov (.t 11), none, []⟩,
    ⟨(some 6), .mov (.t 12), none, []⟩] [2, 4, 6])
  (.seq (.reg false [⟨(some 13), .load (some 3) (.t 4), none, []⟩,
    ⟨(some 14), .mov (.t 6), none, []⟩,
    ⟨none, .store true 3 (.t 2) (.t 13), none, []⟩,
    ⟨(some 3), .mov (.t 14), none, []⟩] [2, 3])
  .ret)))
def f8 : VFn := ⟨1, 15, f8_c, [.c 2 (some 3), .t 3], true, []⟩
/- caliper/caliperref17.Once -/
/- caliper/plain.Simplify -/
def f10_l0 : VCode :=
  (.seq (.block 1 (.seq (.reg false [⟨(some 12), .load (some 3) (.t 1), none, []⟩,
    ⟨(some 13), .call (.c (.func (.func 20) [] [])) [(.t 12)], none, []⟩,
    ⟨(some 11), .mov (.t 13), none, []⟩,
    ⟨(some 14), .extract (.t 11) 0, none, []⟩,
    ⟨(some 15), .extract (.t 11) 1, none, []⟩,
    ⟨(some 16), .extract (.t 11) 2, none, []⟩,
    ⟨(some 6), .alloc true [(.sl 0 [] true), (.sl 0 [] true), (.int .i64 0)], none, []⟩,
    ⟨none, .store true 3 (.t 6) (.t 14), none, []⟩,
    ⟨(some 7), .mov (.t 15), none, []⟩,
    ⟨(some 8), .mov (.t 16), none, []⟩] [1, 2, 5, 6, 7, 8])
  (.seq (.seq (.reg false [⟨(some 17), .mov (.t 8), none, []⟩,
    ⟨(some 18), .bin .neq (.t 17) (.c (.int .i64 0)), none, []⟩] [1, 2, 5, 6, 7, 8, 18])
  (.cond (.t 18) (.seq (.reg false [⟨(some 19), .build [(.sl 0 [] true), (.sl 0 [] true), (.int .i64 0)] [], none, []⟩,
    ⟨(some 20), .mov (.t 8), none, []⟩,
    ⟨none, .store true 3 (.t 2) (.t 19), none, []⟩,
    ⟨(some 3), .mov (.c (.int .i64 0)), none, []⟩,
    ⟨(some 4), .mov (.t 20), none, []⟩] [2, 3, 4])
  .ret) .skip))
  (.seq (.seq (.reg false [⟨(some 21), .mov (.t 7), none, []⟩,
    ⟨(some 22), .un .not (.t 21), none, []⟩] [1, 2, 5, 6, 22])
  (.cond (.t 22) (.seq (.reg false [⟨(some 23), .load (some 3) (.t 6), none, []⟩,
    ⟨(some 24), .mov (.t 5), none, []⟩,
    ⟨none, .store true 3 (.t 2) (.t 23), none, []⟩,
    ⟨(some 3), .mov (.t 24), none, []⟩,
    ⟨(some 4), .mov (.c (.int .i64 0)), none, []⟩] [2, 3, 4])
  .ret) .skip))
  (.reg false [⟨(some 25), .load (some 3) (.t 6), none, []⟩,
    ⟨none, .store true 3 (.t 1) (.t 25), none, []⟩] [1, 2, 5])))))
  (.reg false [⟨(some 9), .mov (.t 5), none, []⟩,
    ⟨(some 10), .bin .add (.t 9) (.c (.int .i64 1)), none, []⟩,
    ⟨(some 5), .mov (.t 10), none, []⟩] [1, 2, 5]))
def f10_c : VCode :=
  (.seq (.reg false [⟨(some 1), .box true 3 (.t 0), none, []⟩,
    ⟨(some 2), .alloc true [(.sl 0 [] true), (.sl 0 [] true), (.int .i64 0)], none, []⟩,
    ⟨(some 3), .mov (.c (.int .i64 0)), none, []⟩,
    ⟨(some 4), .mov (.c (.int .i64 0)), none, []⟩] [1, 2])
  (.seq (.reg false [⟨(some 5), .mov (.c (.int .i64 0)), none, []⟩] [1, 2, 5])
  (.block 0 (.loop [1, 2, 5] f10_l0))))
def f10 : VFn := ⟨1, 26, f10_c, [.c 2 (some 3), .t 3, .t 4], true, []⟩
/- caliper/caliperref17.Simplify -/
/- caliper/caliperref16.Alike -/
/- caliper/plain.Rules -/
def f13_l0 : VCode :=
  (.seq (.reg false [⟨(some 10), .bin .lss (.t 9) (.t 8), none, []⟩] [3, 7, 8, 9, 10])
  (.seq (.cond (.t 10) .skip (.exit 0))
  (.seq (.block 1 (.seq (.reg false [⟨(some 11), .iaddr 3 (.t 7) (.t 9), none, []⟩,
    ⟨(some 12), .load (some 3) (.t 11), none, []⟩,
    ⟨(some 5), .alloc true [(.bool false), (.int .i64 0), (.sl 0 [] true)], none, []⟩,
    ⟨none, .store true 3 (.t 5) (.t 12), none, []⟩] [3, 5, 7, 8, 9])
  (.reg false [⟨(some 13), .mov (.t 3), none, []⟩,
    ⟨(some 14), .faddr 2 (.t 5), none, []⟩,
    ⟨(some 15), .load none (.t 14), none, []⟩,
    ⟨(some 16), .len (.t 15), none, []⟩,
    ⟨(some 17), .bin .add (.t 13) (.t 16), none, []⟩,
    ⟨(some 3), .mov (.t 17), none, []⟩] [3, 7, 8, 9])))
  (.reg false [⟨(some 18), .bin .add (.t 9) (.c (.int .i64 1)), none, []⟩,
    ⟨(some 9), .mov (.t 18), none, []⟩] [3, 7, 8, 9]))))
def f13_c : VCode :=
  (.seq (.reg false [⟨(some 1), .box true 3 (.t 0), none, []⟩,
    ⟨(some 2), .mov (.c (.int .i64 0)), none, []⟩] [1])
  (.seq (.reg false [⟨(some 3), .mov (.c (.int .i64 0)), none, []⟩] [1, 3])
  (.seq (.seq (.reg false [⟨(some 6), .faddr 0 (.t 1), none, []⟩,
    ⟨(some 7), .load none (.t 6), none, []⟩,
    ⟨(some 8), .len (.t 7), none, []⟩,
    ⟨(some 9), .mov (.c (.int .i64 0)), none, []⟩] [3, 7, 8, 9])
  (.block 0 (.loop [3, 7, 8, 9] f13_l0)))
  (.seq (.reg false [⟨(some 19), .mov (.t 3), none, []⟩,
    ⟨(some 2), .mov (.t 19), none, []⟩] [2])
  .ret))))
def f13 : VFn := ⟨1, 20, f13_c, [.t 2], true, []⟩
/- caliper/caliperref17.Rules -/
/- caliper/caliperlaw17.heads -/
def f15_c : VCode :=
  (.seq (.reg false [⟨(some 0), .mov (.c (.bool false)), none, []⟩] [])
  (.seq (.reg false [⟨(some 7), .buildRow false 1 1 [(.int .i64 0)] [(0, (.c (.int .i64 1)))], none, []⟩,
    ⟨(some 8), .build [(.int .i64 0), (.int .i64 0), (.int .i64 0), (.bool false), (.str ⟨#[]⟩), (.int .i64 0), (.sl 0 [] true), (.sl 0 [] true), (.sl 0 [] true), (.sl 0 [] true)] [(0, 1, (.c (.int .i64 22))), (9, 1, (.t 7))], none, []⟩,
    ⟨(some 9), .buildRow true 10 1 [(.int .i64 0), (.int .i64 0), (.int .i64 0), (.bool false), (.str ⟨#[]⟩), (.int .i64 0), (.sl 0 [] true), (.sl 0 [] true), (.sl 0 [] true), (.sl 0 [] true)] [(0, (.t 8))], none, []⟩,
    ⟨(some 10), .build [(.bool false), (.int .i64 0), (.sl 0 [] true)] [(2, 1, (.t 9))], none, []⟩,
    ⟨(some 11), .buildRow false 1 1 [(.int .i64 0)] [(0, (.c (.int .i64 2)))], none, []⟩,
    ⟨(some 12), .build [(.int .i64 0), (.int .i64 0), (.int .i64 0), (.bool false), (.str ⟨#[]⟩), (.int .i64 0), (.sl 0 [] true), (.sl 0 [] true), (.sl 0 [] true), (.sl 0 [] true)] [(0, 1, (.c (.int .i64 22))), (9, 1, (.t 11))], none, []⟩,
    ⟨(some 13), .buildRow true 10 1 [(.int .i64 0), (.int .i64 0), (.int .i64 0), (.bool false), (.str ⟨#[]⟩), (.int .i64 0), (.sl 0 [] true), (.sl 0 [] true), (.sl 0 [] true), (.sl 0 [] true)] [(0, (.t 12))], none, []⟩,
    ⟨(some 14), .build [(.bool false), (.int .i64 0), (.sl 0 [] true)] [(2, 1, (.t 13))], none, []⟩,
    ⟨(some 15), .build [(.bool false), (.int .i64 0), (.sl 0 [] true)] [], none, []⟩,
    ⟨(some 16), .buildRow true 3 3 [(.bool false), (.int .i64 0), (.sl 0 [] true)] [(0, (.t 10)), (1, (.t 14)), (2, (.t 15))], none, []⟩,
    ⟨(some 17), .build [(.sl 0 [] true), (.sl 0 [] true), (.int .i64 0)] [(0, 1, (.t 16))], none, []⟩,
    ⟨(some 1), .alloc true [(.sl 0 [] true), (.sl 0 [] true), (.int .i64 0)], none, []⟩,
    ⟨none, .store true 3 (.t 1) (.t 17), none, []⟩] [1])
  (.seq (.reg false [⟨(some 19), .load (some 3) (.t 1), none, []⟩,
    ⟨(some 20), .call (.c (.func (.func 10) [] [])) [(.t 19)], none, []⟩,
    ⟨(some 18), .mov (.t 20), none, []⟩,
    ⟨(some 21), .extract (.t 18) 0, none, []⟩,
    ⟨(some 22), .extract (.t 18) 1, none, []⟩,
    ⟨(some 23), .extract (.t 18) 2, none, []⟩,
    ⟨(some 2), .alloc true [(.sl 0 [] true), (.sl 0 [] true), (.int .i64 0)], none, []⟩,
    ⟨none, .store true 3 (.t 2) (.t 21), none, []⟩,
    ⟨(some 3), .mov (.t 22), none, []⟩,
    ⟨(some 4), .mov (.t 23), none, []⟩] [1, 2, 3, 4])
  (.seq (.reg false [⟨(some 25), .build [(.sl 0 [] true), (.sl 0 [] true), (.int .i64 0)] [], none, []⟩,
    ⟨(some 26), .call (.c (.func (.func 8) [] [])) [(.t 25)], none, []⟩,
    ⟨(some 24), .mov (.t 26), none, []⟩,
    ⟨(some 27), .extract (.t 24) 0, none, []⟩,
    ⟨(some 28), .extract (.t 24) 1, none, []⟩,
    ⟨(some 5), .alloc true [(.sl 0 [] true), (.sl 0 [] true), (.int .i64 0)], none, []⟩,
    ⟨none, .store true 3 (.t 5) (.t 27), none, []⟩,
    ⟨(some 6), .mov (.t 28), none, []⟩] [1, 2, 3, 4, 6])
  (.seq (.reg false [⟨(some 29), .mov (.t 4), none, []⟩,
    ⟨(some 30), .bin .eql (.t 29) (.c (.int .i64 0)), none, []⟩,
    ⟨(some 31), .mov (.t 30), none, []⟩,
    ⟨(some 32), .mov (.t 3), (some (31, true)), []⟩,
    ⟨(some 33), .bin .eql (.t 32) (.c (.int .i64 2)), (some (31, true)), []⟩,
    ⟨(some 34), .pick (.t 31) (.t 33) (.c (.bool false)), none, []⟩,
    ⟨(some 35), .mov (.t 34), none, []⟩,
    ⟨(some 36), .faddr 0 (.t 2), (some (35, true)), []⟩,
    ⟨(some 37), .load none (.t 36), (some (35, true)), []⟩,
    ⟨(some 38), .len (.t 37), (some (35, true)), []⟩,
    ⟨(some 39), .bin .eql (.t 38) (.c (.int .i64 3)), (some (35, true)), []⟩,
    ⟨(some 40), .pick (.t 35) (.t 39) (.c (.bool false)), none, []⟩,
    ⟨(some 41), .mov (.t 40), none, []⟩,
    ⟨(some 42), .faddr 0 (.t 2), (some (41, true)), []⟩,
    ⟨(some 43), .load none (.t 42), (some (41, true)), []⟩,
    ⟨(some 44), .iaddr 3 (.t 43) (.c (.int .i64 0)), (some (41, true)), []⟩,
    ⟨(some 45), .load (some 3) (.t 44), (some (41, true)), []⟩,
    ⟨(some 46), .call (.c (.func (.func 16) [] [])) [(.t 45)], (some (41, true)), []⟩,
    ⟨(some 47), .pick (.t 41) (.t 46) (.c (.bool false)), none, []⟩,
    ⟨(some 48), .mov (.t 47), none, []⟩,
    ⟨(some 49), .faddr 0 (.t 2), (some (48, true)), []⟩,
    ⟨(some 50), .load none (.t 49), (some (48, true)), []⟩,
    ⟨(some 51), .iaddr 3 (.t 50) (.c (.int .i64 1)), (some (48, true)), []⟩,
    ⟨(some 52), .faddr 0 (.t 51), (some (48, true)), []⟩,
    ⟨(some 53), .load none (.t 52), (some (48, true)), []⟩,
    ⟨(some 54), .pick (.t 48) (.t 53) (.c (.bool false)), none, []⟩,
    ⟨(some 55), .mov (.t 54), none, []⟩,
    ⟨(some 56), .mov (.t 6), (some (55, true)), []⟩,
    ⟨(some 57), .bin .eql (.t 56) (.c (.int .i64 160)), (some (55, true)), []⟩,
    ⟨(some 58), .pick (.t 55) (.t 57) (.c (.bool false)), none, []⟩,
    ⟨(some 59), .mov (.t 58), none, []⟩,
    ⟨(some 60), .load (some 3) (.t 1), (some (59, true)), []⟩,
    ⟨(some 61), .call (.c (.func (.func 13) [] [])) [(.t 60)], (some (59, true)), []⟩,
    ⟨(some 62), .bin .eql (.t 61) (.c (.int .i64 2)), (some (59, true)), []⟩,
    ⟨(some 63), .pick (.t 59) (.t 62) (.c (.bool false)), none, []⟩,
    ⟨(some 64), .mov (.t 63), none, []⟩,
    ⟨(some 65), .load (some 3) (.t 2), (some (64, true)), []⟩,
    ⟨(some 66), .call (.c (.func (.func 13) [] [])) [(.t 65)], (some (64, true)), []⟩,
    ⟨(some 67), .bin .eql (.t 66) (.c (.int .i64 0)), (some (64, true)), []⟩,
    ⟨(some 68), .pick (.t 64) (.t 67) (.c (.bool false)), none, []⟩,
    ⟨(some 0), .mov (.t 68), none, []⟩] [0])
  .ret)))))
def f15 : VFn := ⟨0, 69, f15_c, [.t 0], true, []⟩
/- caliper/plain.Yes -/
def f16_c : VCode :=
  (.seq (.reg false [⟨(some 1), .box true 3 (.t 0), none, []⟩,
    ⟨(some 2), .mov (.c (.bool false)), none, []⟩] [1])
  (.seq (.reg false [⟨(some 3), .faddr 0 (.t 1), none, []⟩,
    ⟨(some 4), .load none (.t 3), none, []⟩,
    ⟨(some 5), .un .not (.t 4), none, []⟩,
    ⟨(some 6), .mov (.t 5), none, []⟩,
    ⟨(some 7), .faddr 2 (.t 1), (some (6, true)), []⟩,
    ⟨(some 8), .load none (.t 7), (some (6, true)), []⟩,
    ⟨(some 9), .len (.t 8), (some (6, true)), []⟩,
    ⟨(some 10), .bin .eql (.t 9) (.c (.int .i64 0)), (some (6, true)), []⟩,
    ⟨(some 11), .pick (.t 6) (.t 10) (.c (.bool false)), none, []⟩,
    ⟨(some 2), .mov (.t 11), none, []⟩] [2])
  .ret))
def f16 : VFn := ⟨1, 12, f16_c, [.t 2], true, []⟩
/- caliper/caliperref17.Yes -/
def f17_c : VCode :=
  (.seq (.reg false [⟨(some 1), .box true 3 (.t 0), none, []⟩,
    ⟨(some 2), .mov (.c (.bool false)), none, []⟩] [1])
  (.seq (.reg false [⟨(some 3), .faddr 0 (.t 1), none, []⟩,
    ⟨(some 4), .load none (.t 3), none, []⟩,
    ⟨(some 5), .un .not (.t 4), none, []⟩,
    ⟨(some 6), .mov (.t 5), none, []⟩,
    ⟨(some 7), .faddr 2 (.t 1), (some (6, true)), []⟩,
    ⟨(some 8), .load none (.t 7), (some (6, true)), []⟩,
    ⟨(some 9), .len (.t 8), (some (6, true)), []⟩,
    ⟨(some 10), .bin .eql (.t 9) (.c (.int .i64 0)), (some (6, true)), []⟩,
    ⟨(some 11), .pick (.t 6) (.t 10) (.c (.bool false)), none, []⟩,
    ⟨(some 2), .mov (.t 11), none, []⟩] [2])
  .ret))
def f17 : VFn := ⟨1, 12, f17_c, [.t 2], true, []⟩
/- caliper/ir.Check -/
def f18_c : VCode :=
  (.seq (.reg false [⟨(some 1), .box true 3 (.t 0), none, []⟩,
    ⟨(some 2), .mov (.c (.int .i64 0)), none, []⟩] [1])
  (.seq (.reg false [⟨(some 8), .faddr 0 (.t 1), none, []⟩,
    ⟨(some 9), .load none (.t 8), none, []⟩,
    ⟨(some 10), .len (.t 9), none, []⟩,
    ⟨(some 3), .alloc false [(.int .i64 0)], none, []⟩,
    ⟨none, .store false 1 (.t 3) (.t 10), none, []⟩] [1, 3])
  (.seq (.reg false [⟨(some 11), .mkfunc (.func 24) [] [(.t 3)], none, []⟩,
    ⟨(some 4), .alloc false [.nilf], none, []⟩,
    ⟨none, .store false 1 (.t 4) (.t 11), none, []⟩] [1, 3, 4])
  (.seq (.reg false [⟨(some 12), .mkfunc (.func 25) [] [(.t 4), (.t 3)], none, []⟩,
    ⟨(some 5), .mov (.t 12), none, []⟩] [1, 4, 5])
  (.seq (.reg false [⟨(some 13), .mkmap, none, []⟩,
    ⟨(some 6), .alloc false [.nilm], none, []⟩,
    ⟨none, .store false 1 (.t 6) (.t 13), none, []⟩] [1, 4, 5, 6])
  (.seq (.reg false [⟨(some 14), .mkfunc (.func 29) [] [(.t 4), (.t 6)], none, []⟩,
    ⟨(some 7), .mov (.t 14), none, []⟩] [1, 4, 5, 7])
  (.seq (.seq (.reg false [⟨(some 15), .load none (.t 4), none, []⟩,
    ⟨(some 16), .faddr 2 (.t 1), none, []⟩,
    ⟨(some 17), .load none (.t 16), none, []⟩,
    ⟨(some 18), .call (.t 15) [(.t 17)], none, []⟩,
    ⟨(some 19), .un .not (.t 18), none, []⟩,
    ⟨(some 20), .mov (.t 19), none, []⟩,
    ⟨(some 21), .faddr 0 (.t 1), (some (20, false)), []⟩,
    ⟨(some 22), .load none (.t 21), (some (20, false)), []⟩,
    ⟨(some 23), .mov (.t 5), (some (20, false)), []⟩,
    ⟨(some 24), .call (.c (.func (.func 31) [] [])) [(.t 22), (.t 23)], (some (20, false)), []⟩,
    ⟨(some 25), .un .not (.t 24), (some (20, false)), []⟩,
    ⟨(some 26), .pick (.t 20) (.c (.bool true)) (.t 25), none, []⟩,
    ⟨(some 27), .mov (.t 26), none, []⟩,
    ⟨(some 28), .faddr 1 (.t 1), (some (27, false)), []⟩,
    ⟨(some 29), .load none (.t 28), (some (27, false)), []⟩,
    ⟨(some 30), .mov (.t 7), (some (27, false)), []⟩,
    ⟨(some 31), .call (.c (.func (.func 32) [] [])) [(.t 29), (.t 30)], (some (27, false)), []⟩,
    ⟨(some 32), .un .not (.t 31), (some (27, false)), []⟩,
    ⟨(some 33), .pick (.t 27) (.c (.bool true)) (.t 32), none, []⟩] [33])
  (.cond (.t 33) (.seq (.reg false [⟨(some 2), .mov (.c (.int .i64 160)), none, []⟩] [2])
  .ret) .skip))
  (.seq (.reg false [⟨(some 2), .mov (.c (.int .i64 0)), none, []⟩] [2])
  .ret))))))))
def f18 : VFn := ⟨1, 34, f18_c, [.t 2], true, []⟩
/- caliper/ir.Same -/
/- caliper/plain.once -/
def f20_l0 : VCode :=
  (.seq (.reg false [⟨(some 33), .bin .lss (.t 32) (.t 31), none, []⟩] [2, 6, 7, 8, 30, 31, 32, 33])
  (.seq (.cond (.t 33) .skip (.exit 0))
  (.seq (.block 1 (.seq (.reg false [⟨(some 34), .iaddr 3 (.t 30) (.t 32), none, []⟩,
    ⟨(some 35), .load (some 3) (.t 34), none, []⟩,
    ⟨(some 10), .alloc true [(.bool false), (.int .i64 0), (.sl 0 [] true)], none, []⟩,
    ⟨none, .store true 3 (.t 10) (.t 35), none, []⟩] [2, 6, 7, 8, 10, 30, 31, 32])
  (.seq (.reg false [⟨(some 37), .mov (.t 6), none, []⟩,
    ⟨(some 38), .load (some 3) (.t 10), none, []⟩,
    ⟨(some 39), .call (.c (.func (.func 36) [] [])) [(.t 37), (.t 38)], none, []⟩,
    ⟨(some 36), .mov (.t 39), none, []⟩,
    ⟨(some 40), .extract (.t 36) 0, none, []⟩,
    ⟨(some 41), .extract (.t 36) 1, none, []⟩,
    ⟨(some 11), .alloc true [(.bool false), (.int .i64 0), (.sl 0 [] true)], none, []⟩,
    ⟨none, .store true 3 (.t 11) (.t 40), none, []⟩,
    ⟨(some 12), .mov (.t 41), none, []⟩] [2, 6, 7, 8, 11, 12, 30, 31, 32])
  (.seq (.reg false [⟨(some 42), .faddr 0 (.t 7), none, []⟩,
    ⟨(some 43), .load none (.t 42), none, []⟩,
    ⟨(some 44), .load (some 3) (.t 11), none, []⟩,
    ⟨(some 45), .buildRow true 3 1 [(.bool false), (.int .i64 0), (.sl 0 [] true)] [(0, (.t 44))], none, []⟩,
    ⟨(some 46), .append 3 40 (.t 43) (.t 45), none, []⟩,
    ⟨(some 47), .faddr 0 (.t 7), none, []⟩,
    ⟨none, .store false 1 (.t 47) (.t 46), none, []⟩] [2, 6, 7, 8, 12, 30, 31, 32])
  (.reg false [⟨(some 48), .mov (.t 8), none, []⟩,
    ⟨(some 49), .mov (.t 48), none, []⟩,
    ⟨(some 50), .mov (.t 12), (some (49, false)), []⟩,
    ⟨(some 51), .pick (.t 49) (.c (.bool true)) (.t 50), none, []⟩,
    ⟨(some 8), .mov (.t 51), none, []⟩] [2, 6, 7, 8, 30, 31, 32])))))
  (.reg false [⟨(some 52), .bin .add (.t 32) (.c (.int .i64 1)), none, []⟩,
    ⟨(some 32), .mov (.t 52), none, []⟩] [2, 6, 7, 8, 30, 31, 32]))))
def f20_c : VCode :=
  (.seq (.reg false [⟨(some 1), .box true 3 (.t 0), none, []⟩,
    ⟨(some 2), .alloc true [(.sl 0 [] true), (.sl 0 [] true), (.int .i64 0)], none, []⟩,
    ⟨(some 3), .mov (.c (.bool false)), none, []⟩,
    ⟨(some 4), .mov (.c (.int .i64 0)), none, []⟩] [1, 2])
  (.seq (.seq (.reg false [⟨(some 13), .load (some 3) (.t 1), none, []⟩,
    ⟨(some 14), .call (.c (.func (.func 18) [] [])) [(.t 13)], none, []⟩,
    ⟨(some 5), .mov (.t 14), none, []⟩] [1, 2, 5])
  (.seq (.reg false [⟨(some 15), .mov (.t 5), none, []⟩,
    ⟨(some 16), .bin .neq (.t 15) (.c (.int .i64 0)), none, []⟩] [1, 2, 5, 16])
  (.cond (.t 16) (.seq (.reg false [⟨(some 17), .build [(.sl 0 [] true), (.sl 0 [] true), (.int .i64 0)] [], none, []⟩,
    ⟨(some 18), .mov (.t 5), none, []⟩,
    ⟨none, .store true 3 (.t 2) (.t 17), none, []⟩,
    ⟨(some 3), .mov (.c (.bool false)), none, []⟩,
    ⟨(some 4), .mov (.t 18), none, []⟩] [2, 3, 4])
  .ret) .skip)))
  (.seq (.reg true [⟨(some 19), .load (some 3) (.t 1), none, []⟩,
    ⟨(some 20), .call (.c (.func (.func 34) [] [])) [], none, [1000000, 1000001, 1]⟩,
    ⟨(some 21), .build [(.sl 0 [] true), (.sl 0 [] true), (.int .i64 0), .nilm] [(0, 3, (.t 19)), (3, 1, (.t 20))], none, []⟩,
    ⟨(some 22), .box true 4 (.t 21), none, []⟩,
    ⟨(some 6), .mov (.t 22), none, []⟩] [1, 2, 6])
  (.seq (.reg true [⟨(some 23), .faddr 2 (.t 1), none, []⟩,
    ⟨(some 24), .load none (.t 23), none, []⟩,
    ⟨(some 25), .faddr 1 (.t 1), none, []⟩,
    ⟨(some 26), .load none (.t 25), none, []⟩,
    ⟨(some 27), .call (.c (.func (.func 35) [] [])) [(.t 26)], none, []⟩,
    ⟨(some 28), .build [(.sl 0 [] true), (.sl 0 [] true), (.int .i64 0)] [(2, 1, (.t 24)), (1, 1, (.t 27))], none, []⟩,
    ⟨(some 7), .alloc true [(.sl 0 [] true), (.sl 0 [] true), (.int .i64 0)], none, []⟩,
    ⟨none, .store true 3 (.t 7) (.t 28), none, []⟩] [1, 2, 6, 7])
  (.seq (.reg false [⟨(some 8), .mov (.c (.bool false)), none, []⟩] [1, 2, 6, 7, 8])
  (.seq (.seq (.reg false [⟨(some 29), .faddr 0 (.t 1), none, []⟩,
    ⟨(some 30), .load none (.t 29), none, []⟩,
    ⟨(some 31), .len (.t 30), none, []⟩,
    ⟨(some 32), .mov (.c (.int .i64 0)), none, []⟩] [2, 6, 7, 8, 30, 31, 32])
  (.block 0 (.loop [2, 6, 7, 8, 30, 31, 32] f20_l0)))
  (.seq (.reg false [⟨(some 53), .load (some 3) (.t 7), none, []⟩,
    ⟨(some 54), .mov (.t 8), none, []⟩,
    ⟨none, .store true 3 (.t 2) (.t 53), none, []⟩,
    ⟨(some 3), .mov (.t 54), none, []⟩,
    ⟨(some 4), .mov (.c (.int .i64 0)), none, []⟩] [2, 3, 4])
  .ret)))))))
def f20 : VFn := ⟨1, 55, f20_c, [.c 2 (some 3), .t 3, .t 4], true, []⟩
/- caliper/caliperref16.Check -/
/- caliper/caliperref17.rule -/
/- caliper/caliperref16.Forms -/
/- caliper/ir.Check$1 -/
def f24_c : VCode :=
  (.seq (.reg false [⟨(some 3), .mov (.c (.bool false)), none, []⟩] [0, 1])
  (.seq (.reg false [⟨(some 4), .mov (.t 0), none, []⟩,
    ⟨(some 5), .bin .geq (.t 4) (.c (.int .i64 0)), none, []⟩,
    ⟨(some 6), .mov (.t 5), none, []⟩,
    ⟨(some 7), .mov (.t 0), (some (6, true)), []⟩,
    ⟨(some 8), .load none (.t 1), (some (6, true)), []⟩,
    ⟨(some 9), .bin .lss (.t 7) (.t 8), (some (6, true)), []⟩,
    ⟨(some 10), .pick (.t 6) (.t 9) (.c (.bool false)), none, []⟩,
    ⟨(some 3), .mov (.t 10), none, []⟩] [3])
  .ret))
def f24 : VFn := ⟨2, 11, f24_c, [.t 3], true, []⟩
/- caliper/ir.Check$2 -/
def f25_c : VCode :=
  (.seq (.reg false [⟨(some 3), .box true 3 (.t 0), none, []⟩,
    ⟨(some 4), .mov (.c (.bool false)), none, []⟩] [1, 2, 3])
  (.seq (.reg false [⟨(some 5), .load none (.t 1), none, []⟩,
    ⟨(some 6), .faddr 1 (.t 3), none, []⟩,
    ⟨(some 7), .load none (.t 6), none, []⟩,
    ⟨(some 8), .call (.t 5) [(.t 7)], none, []⟩,
    ⟨(some 9), .mov (.t 8), none, []⟩,
    ⟨(some 10), .faddr 0 (.t 3), (some (9, true)), []⟩,
    ⟨(some 11), .load none (.t 10), (some (9, true)), []⟩,
    ⟨(some 12), .mov (.t 11), (some (9, true)), []⟩,
    ⟨(some 13), .faddr 2 (.t 3), (some (12, true)), []⟩,
    ⟨(some 14), .load none (.t 13), (some (12, true)), []⟩,
    ⟨(some 15), .len (.t 14), (some (12, true)), []⟩,
    ⟨(some 16), .bin .gtr (.t 15) (.c (.int .i64 0)), (some (12, true)), []⟩,
    ⟨(some 17), .pick (.t 12) (.t 16) (.c (.bool false)), (some (9, true)), []⟩,
    ⟨(some 18), .un .not (.t 17), (some (9, true)), []⟩,
    ⟨(some 19), .pick (.t 9) (.t 18) (.c (.bool false)), none, []⟩,
    ⟨(some 20), .mov (.t 19), none, []⟩,
    ⟨(some 21), .faddr 2 (.t 3), (some (20, true)), []⟩,
    ⟨(some 22), .load none (.t 21), (some (20, true)), []⟩,
    ⟨(some 23), .mkfunc (.func 27) [] [(.t 2)], (some (20, true)), []⟩,
    ⟨(some 24), .call (.c (.func (.func 26) [] [])) [(.t 22), (.t 23)], (some (20, true)), []⟩,
    ⟨(some 25), .pick (.t 20) (.t 24) (.c (.bool false)), none, []⟩,
    ⟨(some 4), .mov (.t 25), none, []⟩] [4])
  .ret))
def f25 : VFn := ⟨3, 26, f25_c, [.t 4], true, []⟩
/- caliper/ir.all[caliper/api.Rule] -/
def f26_c : VCode :=
  (.seq (.reg false [⟨(some 3), .box false 1 (.t 1), none, []⟩,
    ⟨(some 4), .mov (.c (.bool false)), none, []⟩] [0, 3])
  (.seq (.reg false [⟨(some 5), .mov (.t 0), none, []⟩,
    ⟨(some 6), .mkfunc (.func 47) [] [(.t 3)], none, []⟩,
    ⟨(some 7), .call (.c (.func (.func 46) [] [])) [(.t 5), (.t 6)], none, []⟩,
    ⟨(some 8), .un .not (.t 7), none, []⟩,
    ⟨(some 4), .mov (.t 8), none, []⟩] [4])
  .ret))
def f26 : VFn := ⟨2, 9, f26_c, [.t 4], true, []⟩
/- caliper/ir.Check$2$1 -/
def f27_c : VCode :=
  (.seq (.reg false [⟨(some 2), .box true 10 (.t 0), none, []⟩,
    ⟨(some 3), .mov (.c (.bool false)), none, []⟩] [1, 2])
  (.seq (.reg false [⟨(some 4), .load (some 10) (.t 2), none, []⟩,
    ⟨(some 5), .load none (.t 1), none, []⟩,
    ⟨(some 6), .call (.c (.func (.func 28) [] [])) [(.t 4), (.t 5)], none, []⟩,
    ⟨(some 3), .mov (.t 6), none, []⟩] [3])
  .ret))
def f27 : VFn := ⟨2, 7, f27_c, [.t 3], true, []⟩
/- caliper/ir.fits -/
def f28_l0 : VCode :=
  (.seq (.reg false [⟨(some 64), .bin .lss (.t 63) (.t 62), none, []⟩] [1, 2, 61, 62, 63, 64])
  (.seq (.cond (.t 64) .skip (.exit 0))
  (.seq (.block 1 (.seq (.reg false [⟨(some 65), .mov (.t 63), none, []⟩,
    ⟨(some 66), .iaddr 1 (.t 61) (.t 63), none, []⟩,
    ⟨(some 67), .load none (.t 66), none, []⟩,
    ⟨(some 7), .mov (.t 65), none, []⟩,
    ⟨(some 8), .mov (.t 67), none, []⟩] [1, 2, 7, 8, 61, 62, 63])
  (.seq (.reg false [⟨(some 68), .mov (.t 8), none, []⟩,
    ⟨(some 69), .mov (.t 1), none, []⟩,
    ⟨(some 70), .bin .geq (.t 68) (.t 69), none, []⟩,
    ⟨(some 71), .mov (.t 70), none, []⟩,
    ⟨(some 72), .mov (.t 8), (some (71, false)), []⟩,
    ⟨(some 73), .bin .lss (.t 72) (.c (.int .i64 0)), (some (71, false)), []⟩,
    ⟨(some 74), .mov (.t 73), (some (71, false)), []⟩,
    ⟨(some 75), .faddr 0 (.t 2), (some (74, true)), []⟩,
    ⟨(some 76), .load none (.t 75), (some (74, true)), []⟩,
    ⟨(some 77), .bin .eql (.t 76) (.c (.int .i64 23)), (some (74, true)), []⟩,
    ⟨(some 78), .mov (.t 77), (some (74, true)), []⟩,
    ⟨(some 79), .mov (.t 7), (some (78, true)), []⟩,
    ⟨(some 80), .bin .gtr (.t 79) (.c (.int .i64 0)), (some (78, true)), []⟩,
    ⟨(some 81), .pick (.t 78) (.t 80) (.c (.bool false)), (some (74, true)), []⟩,
    ⟨(some 82), .mov (.t 81), (some (74, true)), []⟩,
    ⟨(some 83), .mov (.t 8), (some (82, true)), []⟩,
    ⟨(some 84), .bin .eql (.t 83) (.c (.int .i64 (-1))), (some (82, true)), []⟩,
    ⟨(some 85), .pick (.t 82) (.t 84) (.c (.bool false)), (some (74, true)), []⟩,
    ⟨(some 86), .un .not (.t 85), (some (74, true)), []⟩,
    ⟨(some 87), .pick (.t 74) (.t 86) (.c (.bool false)), (some (71, false)), []⟩,
    ⟨(some 88), .pick (.t 71) (.c (.bool true)) (.t 87), none, []⟩] [1, 2, 61, 62, 63, 88])
  (.cond (.t 88) (.seq (.reg false [⟨(some 4), .mov (.c (.bool false)), none, []⟩] [4])
  .ret) .skip))))
  (.reg false [⟨(some 89), .bin .add (.t 63) (.c (.int .i64 1)), none, []⟩,
    ⟨(some 63), .mov (.t 89), none, []⟩] [1, 2, 61, 62, 63]))))
def f28_c : VCode :=
  (.seq (.reg false [⟨(some 2), .box true 10 (.t 0), none, []⟩,
    ⟨(some 4), .mov (.c (.bool false)), none, []⟩] [1, 2])
  (.seq (.reg false [⟨(some 10), .faddr 0 (.t 2), none, []⟩,
    ⟨(some 11), .load none (.t 10), none, []⟩,
    ⟨(some 12), .call (.c (.func (.func 48) [] [])) [(.t 11)], none, []⟩,
    ⟨(some 9), .mov (.t 12), none, []⟩,
    ⟨(some 13), .extract (.t 9) 0, none, []⟩,
    ⟨(some 14), .extract (.t 9) 1, none, []⟩,
    ⟨(some 5), .alloc true [(.bool false), (.bool false), (.bool false), (.bool false), (.bool false), (.bool false), (.int .i64 0)], none, []⟩,
    ⟨none, .store true 7 (.t 5) (.t 13), none, []⟩,
    ⟨(some 6), .mov (.t 14), none, []⟩] [1, 2, 5, 6])
  (.seq (.seq (.reg false [⟨(some 15), .mov (.t 6), none, []⟩,
    ⟨(some 16), .un .not (.t 15), none, []⟩,
    ⟨(some 17), .mov (.t 16), none, []⟩,
    ⟨(some 18), .load (some 7) (.t 5), (some (17, false)), []⟩,
    ⟨(some 19), .load (some 10) (.t 2), (some (17, false)), []⟩,
    ⟨(some 20), .call (.c (.func (.func 49) [] [])) [(.t 18), (.t 19)], (some (17, false)), []⟩,
    ⟨(some 21), .un .not (.t 20), (some (17, false)), []⟩,
    ⟨(some 22), .pick (.t 17) (.c (.bool true)) (.t 21), none, []⟩,
    ⟨(some 23), .mov (.t 22), none, []⟩,
    ⟨(some 24), .load (some 7) (.t 5), (some (23, false)), []⟩,
    ⟨(some 25), .load (some 10) (.t 2), (some (23, false)), []⟩,
    ⟨(some 26), .call (.c (.func (.func 50) [] [])) [(.t 24), (.t 25)], (some (23, false)), []⟩,
    ⟨(some 27), .un .not (.t 26), (some (23, false)), []⟩,
    ⟨(some 28), .pick (.t 23) (.c (.bool true)) (.t 27), none, []⟩,
    ⟨(some 29), .mov (.t 28), none, []⟩,
    ⟨(some 30), .load (some 10) (.t 2), (some (29, false)), []⟩,
    ⟨(some 31), .call (.c (.func (.func 51) [] [])) [(.t 30)], (some (29, false)), []⟩,
    ⟨(some 32), .un .not (.t 31), (some (29, false)), []⟩,
    ⟨(some 33), .pick (.t 29) (.c (.bool true)) (.t 32), none, []⟩,
    ⟨(some 34), .mov (.t 33), none, []⟩,
    ⟨(some 35), .faddr 1 (.t 2), (some (34, false)), []⟩,
    ⟨(some 36), .load none (.t 35), (some (34, false)), []⟩,
    ⟨(some 37), .bin .lss (.t 36) (.c (.int .i64 0)), (some (34, false)), []⟩,
    ⟨(some 38), .pick (.t 34) (.c (.bool true)) (.t 37), none, []⟩,
    ⟨(some 39), .mov (.t 38), none, []⟩,
    ⟨(some 40), .faddr 1 (.t 2), (some (39, false)), []⟩,
    ⟨(some 41), .load none (.t 40), (some (39, false)), []⟩,
    ⟨(some 42), .bin .gtr (.t 41) (.c (.int .i64 1000000000)), (some (39, false)), []⟩,
    ⟨(some 43), .pick (.t 39) (.c (.bool true)) (.t 42), none, []⟩,
    ⟨(some 44), .mov (.t 43), none, []⟩,
    ⟨(some 45), .faddr 2 (.t 2), (some (44, false)), []⟩,
    ⟨(some 46), .load none (.t 45), (some (44, false)), []⟩,
    ⟨(some 47), .bin .lss (.t 46) (.c (.int .i64 (-1))), (some (44, false)), []⟩,
    ⟨(some 48), .pick (.t 44) (.c (.bool true)) (.t 47), none, []⟩,
    ⟨(some 49), .mov (.t 48), none, []⟩,
    ⟨(some 50), .faddr 2 (.t 2), (some (49, false)), []⟩,
    ⟨(some 51), .load none (.t 50), (some (49, false)), []⟩,
    ⟨(some 52), .bin .gtr (.t 51) (.c (.int .i64 1000000000)), (some (49, false)), []⟩,
    ⟨(some 53), .pick (.t 49) (.c (.bool true)) (.t 52), none, []⟩,
    ⟨(some 54), .mov (.t 53), none, []⟩,
    ⟨(some 55), .faddr 3 (.t 2), (some (54, false)), []⟩,
    ⟨(some 56), .load (some 3) (.t 55), (some (54, false)), []⟩,
    ⟨(some 57), .call (.c (.func (.func 52) [] [])) [(.t 56)], (some (54, false)), []⟩,
    ⟨(some 58), .bin .neq (.t 57) (.c (.int .i64 0)), (some (54, false)), []⟩,
    ⟨(some 59), .pick (.t 54) (.c (.bool true)) (.t 58), none, []⟩] [1, 2, 59])
  (.cond (.t 59) (.seq (.reg false [⟨(some 4), .mov (.c (.bool false)), none, []⟩] [4])
  .ret) .skip))
  (.seq (.seq (.reg false [⟨(some 60), .faddr 9 (.t 2), none, []⟩,
    ⟨(some 61), .load none (.t 60), none, []⟩,
    ⟨(some 62), .len (.t 61), none, []⟩,
    ⟨(some 63), .mov (.c (.int .i64 0)), none, []⟩] [1, 2, 61, 62, 63])
  (.block 0 (.loop [1, 2, 61, 62, 63] f28_l0)))
  (.seq (.reg false [⟨(some 90), .faddr 6 (.t 2), none, []⟩,
    ⟨(some 91), .load none (.t 90), none, []⟩,
    ⟨(some 92), .call (.c (.func (.func 53) [] [])) [(.t 91), (.c (.func (.func 54) [] []))], none, []⟩,
    ⟨(some 93), .mov (.t 92), none, []⟩,
    ⟨(some 94), .faddr 8 (.t 2), (some (93, true)), []⟩,
    ⟨(some 95), .load none (.t 94), (some (93, true)), []⟩,
    ⟨(some 96), .call (.c (.func (.func 56) [] [])) [(.t 95), (.c (.func (.func 57) [] []))], (some (93, true)), []⟩,
    ⟨(some 97), .pick (.t 93) (.t 96) (.c (.bool false)), none, []⟩,
    ⟨(some 98), .mov (.t 97), none, []⟩,
    ⟨(some 99), .faddr 7 (.t 2), (some (98, true)), []⟩,
    ⟨(some 100), .load none (.t 99), (some (98, true)), []⟩,
    ⟨(some 101), .call (.c (.func (.func 56) [] [])) [(.t 100), (.c (.func (.func 30) [] []))], (some (98, true)), []⟩,
    ⟨(some 102), .pick (.t 98) (.t 101) (.c (.bool false)), none, []⟩,
    ⟨(some 4), .mov (.t 102), none, []⟩] [4])
  .ret)))))
def f28 : VFn := ⟨2, 103, f28_c, [.t 4], true, []⟩
/- caliper/ir.Check$3 -/
def f29_c : VCode :=
  (.seq (.reg false [⟨(some 3), .box true 3 (.t 0), none, []⟩,
    ⟨(some 4), .mov (.c (.bool false)), none, []⟩] [1, 2, 3])
  (.seq (.reg false [⟨(some 6), .load none (.t 1), none, []⟩,
    ⟨(some 7), .faddr 1 (.t 3), none, []⟩,
    ⟨(some 8), .load none (.t 7), none, []⟩,
    ⟨(some 9), .call (.t 6) [(.t 8)], none, []⟩,
    ⟨(some 10), .mov (.t 9), none, []⟩,
    ⟨(some 11), .load none (.t 1), (some (10, true)), []⟩,
    ⟨(some 12), .faddr 2 (.t 3), (some (10, true)), []⟩,
    ⟨(some 13), .load none (.t 12), (some (10, true)), []⟩,
    ⟨(some 14), .call (.t 11) [(.t 13)], (some (10, true)), []⟩,
    ⟨(some 15), .pick (.t 10) (.t 14) (.c (.bool false)), none, []⟩,
    ⟨(some 16), .mov (.t 15), none, []⟩,
    ⟨(some 17), .faddr 0 (.t 3), (some (16, true)), []⟩,
    ⟨(some 18), .load none (.t 17), (some (16, true)), []⟩,
    ⟨(some 19), .call (.c (.func (.func 30) [] [])) [(.t 18)], (some (16, true)), []⟩,
    ⟨(some 20), .pick (.t 16) (.t 19) (.c (.bool false)), none, []⟩,
    ⟨(some 5), .mov (.t 20), none, []⟩] [2, 3, 5])
  (.seq (.reg false [⟨(some 21), .faddr 2 (.t 3), none, []⟩,
    ⟨none, .store false 1 (.t 21) (.c (.int .i64 0)), none, []⟩] [2, 3, 5])
  (.seq .stuck
  (.seq (.reg false [⟨(some 28), .mov (.t 5), none, []⟩,
    ⟨(some 29), .mov (.t 28), none, []⟩,
    ⟨(some 30), .load none (.t 2), (some (29, true)), []⟩,
    ⟨(some 31), .load (some 3) (.t 3), (some (29, true)), []⟩,
    ⟨(some 32), .lookup true [.str, .int, .int] (.int .i64 0) (.t 30) (.t 31) false, (some (29, true)), []⟩,
    ⟨(some 33), .bin .eql (.t 32) (.c (.int .i64 1)), (some (29, true)), []⟩,
    ⟨(some 34), .pick (.t 29) (.t 33) (.c (.bool false)), none, []⟩,
    ⟨(some 4), .mov (.t 34), none, []⟩] [4])
  .ret)))))
def f29 : VFn := ⟨3, 35, f29_c, [.t 4], true, []⟩
/- caliper/ir.plain -/
def f30_c : VCode :=
  (.seq (.reg false [⟨(some 2), .mov (.c (.bool false)), none, []⟩] [0])
  (.seq (.reg false [⟨(some 6), .mov (.t 0), none, []⟩,
    ⟨(some 7), .conv .strToBytes (.t 6), none, []⟩,
    ⟨(some 8), .call (.c (.func (.func 58) [] [])) [(.t 7)], none, []⟩,
    ⟨(some 5), .mov (.t 8), none, []⟩,
    ⟨(some 9), .extract (.t 5) 0, none, []⟩,
    ⟨(some 10), .extract (.t 5) 1, none, []⟩,
    ⟨(some 3), .mov (.t 9), none, []⟩,
    ⟨(some 4), .mov (.t 10), none, []⟩] [4])
  (.seq (.reg false [⟨(some 11), .mov (.t 4), none, []⟩,
    ⟨(some 2), .mov (.t 11), none, []⟩] [2])
  .ret)))
def f30 : VFn := ⟨1, 12, f30_c, [.t 2], true, []⟩
/- caliper/ir.all[caliper/api.Form] -/
def f31_c : VCode :=
  (.seq (.reg false [⟨(some 3), .box false 1 (.t 1), none, []⟩,
    ⟨(some 4), .mov (.c (.bool false)), none, []⟩] [0, 3])
  (.seq (.reg false [⟨(some 5), .mov (.t 0), none, []⟩,
    ⟨(some 6), .mkfunc (.func 60) [] [(.t 3)], none, []⟩,
    ⟨(some 7), .call (.c (.func (.func 59) [] [])) [(.t 5), (.t 6)], none, []⟩,
    ⟨(some 8), .un .not (.t 7), none, []⟩,
    ⟨(some 4), .mov (.t 8), none, []⟩] [4])
  .ret))
def f31 : VFn := ⟨2, 9, f31_c, [.t 4], true, []⟩
/- caliper/ir.all[caliper/api.Dyn] -/
def f32_c : VCode :=
  (.seq (.reg false [⟨(some 3), .box false 1 (.t 1), none, []⟩,
    ⟨(some 4), .mov (.c (.bool false)), none, []⟩] [0, 3])
  (.seq (.reg false [⟨(some 5), .mov (.t 0), none, []⟩,
    ⟨(some 6), .mkfunc (.func 62) [] [(.t 3)], none, []⟩,
    ⟨(some 7), .call (.c (.func (.func 61) [] [])) [(.t 5), (.t 6)], none, []⟩,
    ⟨(some 8), .un .not (.t 7), none, []⟩,
    ⟨(some 4), .mov (.t 8), none, []⟩] [4])
  .ret))
def f32 : VFn := ⟨2, 9, f32_c, [.t 4], true, []⟩
/- caliper/ir.Same$1 -/
/- caliper/plain.deeds -/
def f34_c : VCode :=
  (.seq (.reg false [⟨(some 0), .mov (.c .nilm), none, []⟩] [])
  (.seq (.reg false [⟨(some 1), .mkmap, none, []⟩,
    ⟨none, .mapupd false [.int] (.t 1) (.c (.int .i64 1)) (.c (.func (.func 63) [] [])), none, []⟩,
    ⟨none, .mapupd false [.int] (.t 1) (.c (.int .i64 3)) (.c (.func (.func 64) [] [])), none, []⟩,
    ⟨none, .mapupd false [.int] (.t 1) (.c (.int .i64 10)) (.c (.func (.func 65) [] [])), none, []⟩,
    ⟨none, .mapupd false [.int] (.t 1) (.c (.int .i64 13)) (.c (.func (.func 65) [] [])), none, []⟩,
    ⟨none, .mapupd false [.int] (.t 1) (.c (.int .i64 16)) (.c (.func (.func 65) [] [])), none, []⟩,
    ⟨none, .mapupd false [.int] (.t 1) (.c (.int .i64 17)) (.c (.func (.func 66) [] [])), none, []⟩,
    ⟨none, .mapupd false [.int] (.t 1) (.c (.int .i64 18)) (.c (.func (.func 66) [] [])), none, []⟩,
    ⟨none, .mapupd false [.int] (.t 1) (.c (.int .i64 19)) (.c (.func (.func 67) [] [])), none, []⟩,
    ⟨none, .mapupd false [.int] (.t 1) (.c (.int .i64 20)) (.c (.func (.func 68) [] [])), none, []⟩,
    ⟨none, .mapupd false [.int] (.t 1) (.c (.int .i64 21)) (.c (.func (.func 69) [] [])), none, []⟩,
    ⟨none, .mapupd false [.int] (.t 1) (.c (.int .i64 22)) (.c (.func (.func 70) [] [])), none, []⟩,
    ⟨none, .mapupd false [.int] (.t 1) (.c (.int .i64 25)) (.c (.func (.func 71) [] [])), none, []⟩,
    ⟨none, .mapupd false [.int] (.t 1) (.c (.int .i64 24)) (.c (.func (.func 72) [] [])), none, []⟩,
    ⟨none, .mapupd false [.int] (.t 1) (.c (.int .i64 23)) (.c (.func (.func 73) [] [])), none, []⟩,
    ⟨(some 2), .mov (.t 1), none, []⟩,
    ⟨(some 0), .mov (.t 2), none, []⟩] [0])
  .ret))
def f34 : VFn := ⟨0, 3, f34_c, [.t 0], false, []⟩
/- slices.Clone[[]caliper/api.Dyn,caliper/api.Dyn] -/
def f35_c : VCode :=
  (.seq (.reg false [⟨(some 2), .nilrow 3, none, []⟩] [0])
  (.seq (.seq (.reg false [⟨(some 3), .mov (.t 0), none, []⟩,
    ⟨(some 4), .isnil .slice false (.t 3), none, []⟩] [0, 4])
  (.cond (.t 4) (.seq (.reg false [⟨(some 2), .nilrow 3, none, []⟩] [2])
  .ret) .skip))
  (.seq (.reg false [⟨(some 5), .buildRow true 3 0 [(.str ⟨#[]⟩), (.int .i64 0), (.int .i64 0)] [], none, []⟩,
    ⟨(some 6), .mov (.t 0), none, []⟩,
    ⟨(some 7), .append 3 32 (.t 5) (.t 6), none, []⟩,
    ⟨(some 2), .mov (.t 7), none, []⟩] [2])
  .ret)))
def f35 : VFn := ⟨1, 8, f35_c, [.t 2], true, []⟩
/- (*caliper/plain.simplifier).form -/
def f36_l0 : VCode :=
  (.seq (.reg false [⟨(some 23), .bin .lss (.t 22) (.t 21), none, []⟩] [0, 3, 4, 6, 7, 20, 21, 22, 23])
  (.seq (.cond (.t 23) .skip (.exit 0))
  (.seq (.block 1 (.seq (.reg false [⟨(some 24), .iaddr 10 (.t 20) (.t 22), none, []⟩,
    ⟨(some 25), .load (some 10) (.t 24), none, []⟩,
    ⟨(some 9), .alloc true [(.int .i64 0), (.int .i64 0), (.int .i64 0), (.bool false), (.str ⟨#[]⟩), (.int .i64 0), (.sl 0 [] true), (.sl 0 [] true), (.sl 0 [] true), (.sl 0 [] true)], none, []⟩,
    ⟨none, .store true 10 (.t 9) (.t 25), none, []⟩] [0, 3, 4, 6, 7, 9, 20, 21, 22])
  (.seq (.reg false [⟨(some 26), .load (some 10) (.t 9), none, []⟩,
    ⟨(some 10), .alloc true [(.int .i64 0), (.int .i64 0), (.int .i64 0), (.bool false), (.str ⟨#[]⟩), (.int .i64 0), (.sl 0 [] true), (.sl 0 [] true), (.sl 0 [] true), (.sl 0 [] true)], none, []⟩,
    ⟨none, .store true 10 (.t 10) (.t 26), none, []⟩,
    ⟨(some 11), .mov (.c (.int .i64 0)), none, []⟩] [0, 3, 4, 6, 7, 9, 10, 11, 20, 21, 22])
  (.seq (.seq (.reg true [⟨(some 28), .mov (.t 0), none, []⟩,
    ⟨(some 29), .nilck (.t 28), none, []⟩,
    ⟨(some 30), .faddr 3 (.t 29), none, []⟩,
    ⟨(some 31), .load none (.t 30), none, []⟩,
    ⟨(some 32), .faddr 0 (.t 9), none, []⟩,
    ⟨(some 33), .load none (.t 32), none, []⟩,
    ⟨(some 34), .lookup false [.int] .nilf (.t 31) (.t 33) true, none, []⟩,
    ⟨(some 27), .mov (.t 34), none, []⟩,
    ⟨(some 35), .extract (.t 27) 0, none, []⟩,
    ⟨(some 36), .extract (.t 27) 1, none, []⟩,
    ⟨(some 12), .mov (.t 35), none, []⟩,
    ⟨(some 13), .mov (.t 36), none, []⟩] [0, 3, 4, 6, 7, 9, 10, 11, 12, 13, 20, 21, 22])
  (.seq (.reg false [⟨(some 37), .mov (.t 13), none, []⟩] [0, 3, 4, 6, 7, 9, 10, 11, 12, 20, 21, 22, 37])
  (.cond (.t 37) (.reg false [⟨(some 39), .mov (.t 12), none, []⟩,
    ⟨(some 40), .mov (.t 0), none, []⟩,
    ⟨(some 41), .load (some 10) (.t 9), none, []⟩,
    ⟨(some 42), .call (.t 39) [(.t 40), (.t 41)], none, []⟩,
    ⟨(some 38), .mov (.t 42), none, []⟩,
    ⟨(some 43), .extract (.t 38) 0, none, []⟩,
    ⟨(some 44), .extract (.t 38) 1, none, []⟩,
    ⟨none, .store true 10 (.t 10) (.t 43), none, []⟩,
    ⟨(some 11), .mov (.t 44), none, []⟩] [0, 3, 4, 6, 7, 9, 10, 11, 20, 21, 22]) .skip)))
  (.seq (.seq (.reg false [⟨(some 45), .mov (.t 11), none, []⟩] [0, 3, 4, 6, 7, 9, 10, 11, 20, 21, 22, 45])
  (.block 2 (.seq (.reg false [⟨(some 47), .bin .eql (.t 45) (.c (.int .i64 0)), none, []⟩,
    ⟨(some 46), .mov (.t 47), none, []⟩] [0, 3, 4, 6, 7, 9, 10, 11, 20, 21, 22, 45, 46])
  (.cond (.t 46) (.reg false [⟨(some 48), .faddr 2 (.t 6), none, []⟩,
    ⟨(some 49), .load none (.t 48), none, []⟩,
    ⟨(some 50), .load (some 10) (.t 10), none, []⟩,
    ⟨(some 51), .buildRow true 10 1 [(.int .i64 0), (.int .i64 0), (.int .i64 0), (.bool false), (.str ⟨#[]⟩), (.int .i64 0), (.sl 0 [] true), (.sl 0 [] true), (.sl 0 [] true), (.sl 0 [] true)] [(0, (.t 50))], none, []⟩,
    ⟨(some 52), .append 10 152 (.t 49) (.t 51), none, []⟩,
    ⟨(some 53), .faddr 2 (.t 6), none, []⟩,
    ⟨none, .store false 1 (.t 53) (.t 52), none, []⟩] [0, 3, 4, 6, 7, 9, 10, 11, 20, 21, 22]) (.seq (.reg false [⟨(some 55), .bin .eql (.t 45) (.c (.int .i64 2)), none, []⟩,
    ⟨(some 54), .mov (.t 55), none, []⟩] [0, 3, 4, 6, 7, 9, 10, 11, 20, 21, 22, 54])
  (.cond (.t 54) (.seq (.reg false [⟨(some 56), .faddr 1 (.t 3), none, []⟩,
    ⟨(some 57), .load none (.t 56), none, []⟩,
    ⟨(some 58), .build [(.bool false), (.int .i64 0), (.sl 0 [] true)] [(0, 1, (.c (.bool true))), (1, 1, (.t 57))], none, []⟩,
    ⟨none, .store true 3 (.t 4) (.t 58), none, []⟩,
    ⟨(some 5), .mov (.c (.bool true)), none, []⟩] [4, 5])
  .ret) .skip))))))
  (.reg false [⟨(some 59), .mov (.t 7), none, []⟩,
    ⟨(some 60), .mov (.t 59), none, []⟩,
    ⟨(some 61), .mov (.t 11), (some (60, false)), []⟩,
    ⟨(some 62), .bin .neq (.t 61) (.c (.int .i64 0)), (some (60, false)), []⟩,
    ⟨(some 63), .pick (.t 60) (.c (.bool true)) (.t 62), none, []⟩,
    ⟨(some 64), .mov (.t 63), none, []⟩,
    ⟨(some 65), .faddr 0 (.t 10), (some (64, false)), []⟩,
    ⟨(some 66), .load none (.t 65), (some (64, false)), []⟩,
    ⟨(some 67), .faddr 0 (.t 9), (some (64, false)), []⟩,
    ⟨(some 68), .load none (.t 67), (some (64, false)), []⟩,
    ⟨(some 69), .bin .neq (.t 66) (.t 68), (some (64, false)), []⟩,
    ⟨(some 70), .pick (.t 64) (.c (.bool true)) (.t 69), none, []⟩,
    ⟨(some 71), .mov (.t 70), none, []⟩,
    ⟨(some 72), .faddr 9 (.t 10), (some (71, false)), []⟩,
    ⟨(some 73), .load none (.t 72), (some (71, false)), []⟩,
    ⟨(some 74), .faddr 9 (.t 9), (some (71, false)), []⟩,
    ⟨(some 75), .load none (.t 74), (some (71, false)), []⟩,
    ⟨(some 76), .call (.c (.func (.func 74) [] [])) [(.t 73), (.t 75)], (some (71, false)), []⟩,
    ⟨(some 77), .un .not (.t 76), (some (71, false)), []⟩,
    ⟨(some 78), .pick (.t 71) (.c (.bool true)) (.t 77), none, []⟩,
    ⟨(some 7), .mov (.t 78), none, []⟩] [0, 3, 4, 6, 7, 20, 21, 22]))))))
  (.reg false [⟨(some 79), .bin .add (.t 22) (.c (.int .i64 1)), none, []⟩,
    ⟨(some 22), .mov (.t 79), none, []⟩] [0, 3, 4, 6, 7, 20, 21, 22]))))
def f36_c : VCode :=
  (.seq (.reg false [⟨(some 3), .box true 3 (.t 1), none, []⟩,
    ⟨(some 4), .alloc true [(.bool false), (.int .i64 0), (.sl 0 [] true)], none, []⟩,
    ⟨(some 5), .mov (.c (.bool false)), none, []⟩] [0, 3, 4])
  (.seq (.reg false [⟨(some 14), .faddr 0 (.t 3), none, []⟩,
    ⟨(some 15), .load none (.t 14), none, []⟩,
    ⟨(some 16), .faddr 1 (.t 3), none, []⟩,
    ⟨(some 17), .load none (.t 16), none, []⟩,
    ⟨(some 18), .build [(.bool false), (.int .i64 0), (.sl 0 [] true)] [(0, 1, (.t 15)), (1, 1, (.t 17))], none, []⟩,
    ⟨(some 6), .alloc true [(.bool false), (.int .i64 0), (.sl 0 [] true)], none, []⟩,
    ⟨none, .store true 3 (.t 6) (.t 18), none, []⟩] [0, 3, 4, 6])
  (.seq (.reg false [⟨(some 7), .mov (.c (.bool false)), none, []⟩] [0, 3, 4, 6, 7])
  (.seq (.seq (.reg false [⟨(some 19), .faddr 2 (.t 3), none, []⟩,
    ⟨(some 20), .load none (.t 19), none, []⟩,
    ⟨(some 21), .len (.t 20), none, []⟩,
    ⟨(some 22), .mov (.c (.int .i64 0)), none, []⟩] [0, 3, 4, 6, 7, 20, 21, 22])
  (.block 0 (.loop [0, 3, 4, 6, 7, 20, 21, 22] f36_l0)))
  (.seq (.reg false [⟨(some 80), .load (some 3) (.t 6), none, []⟩,
    ⟨(some 81), .mov (.t 7), none, []⟩,
    ⟨none, .store true 3 (.t 4) (.t 80), none, []⟩,
    ⟨(some 5), .mov (.t 81), none, []⟩] [4, 5])
  .ret)))))
def f36 : VFn := ⟨2, 82, f36_c, [.c 4 (some 3), .t 5], true, []⟩
/- caliper/caliperref16.rule -/
/- caliper/caliperref16.valid -/
/- caliper/caliperref17.all -/
/- caliper/caliperref17.several -/
/- caliper/caliperref17.some -/
/- caliper/caliperref17.yes -/
/- caliper/caliperref17.of -/
/- caliper/caliperref17.no -/
/- caliper/caliperref16.rules -/
/- slices.ContainsFunc[[]caliper/api.Rule,caliper/api.Rule] -/
def f46_c : VCode :=
  (.seq (.reg false [⟨(some 4), .mov (.c (.bool false)), none, []⟩] [0, 1])
  (.seq (.reg false [⟨(some 5), .mov (.t 0), none, []⟩,
    ⟨(some 6), .mov (.t 1), none, []⟩,
    ⟨(some 7), .call (.c (.func (.func 86) [] [])) [(.t 5), (.t 6)], none, []⟩,
    ⟨(some 8), .bin .geq (.t 7) (.c (.int .i64 0)), none, []⟩,
    ⟨(some 4), .mov (.t 8), none, []⟩] [4])
  .ret))
def f46 : VFn := ⟨2, 9, f46_c, [.t 4], true, []⟩
/- caliper/ir.all[caliper/api.Rule]$1 -/
def f47_c : VCode :=
  (.seq (.reg false [⟨(some 2), .box true 10 (.t 0), none, []⟩,
    ⟨(some 3), .mov (.c (.bool false)), none, []⟩] [1, 2])
  (.seq (.reg false [⟨(some 4), .load none (.t 1), none, []⟩,
    ⟨(some 5), .load (some 10) (.t 2), none, []⟩,
    ⟨(some 6), .call (.t 4) [(.t 5)], none, []⟩,
    ⟨(some 7), .un .not (.t 6), none, []⟩,
    ⟨(some 3), .mov (.t 7), none, []⟩] [3])
  .ret))
def f47 : VFn := ⟨2, 8, f47_c, [.t 3], true, []⟩
/- caliper/ir.needs -/
def f48_c : VCode :=
  (.seq (.reg false [⟨(some 2), .alloc true [(.bool false), (.bool false), (.bool false), (.bool false), (.bool false), (.bool false), (.int .i64 0)], none, []⟩,
    ⟨(some 3), .mov (.c (.bool false)), none, []⟩] [0, 2])
  (.seq (.seq (.reg false [⟨(some 4), .mov (.t 0), none, []⟩] [2, 4])
  (.block 0 (.seq (.seq (.reg false [⟨(some 6), .bin .eql (.t 4) (.c (.int .i64 1)), none, []⟩,
    ⟨(some 5), .mov (.t 6), none, []⟩] [2, 4, 5])
  (.cond (.t 5) .skip (.seq (.reg false [⟨(some 7), .bin .eql (.t 4) (.c (.int .i64 17)), none, []⟩,
    ⟨(some 5), .mov (.t 7), none, []⟩] [2, 4, 5])
  (.cond (.t 5) .skip (.reg false [⟨(some 8), .bin .eql (.t 4) (.c (.int .i64 18)), none, []⟩,
    ⟨(some 5), .mov (.t 8), none, []⟩] [2, 4, 5])))))
  (.cond (.t 5) (.seq (.reg false [⟨(some 9), .build [(.bool false), (.bool false), (.bool false), (.bool false), (.bool false), (.bool false), (.int .i64 0)] [(5, 1, (.c (.bool true)))], none, []⟩,
    ⟨none, .store true 7 (.t 2) (.t 9), none, []⟩,
    ⟨(some 3), .mov (.c (.bool true)), none, []⟩] [2, 3])
  .ret) (.seq (.seq (.reg false [⟨(some 11), .bin .eql (.t 4) (.c (.int .i64 2)), none, []⟩,
    ⟨(some 10), .mov (.t 11), none, []⟩] [2, 4, 10])
  (.cond (.t 10) .skip (.reg false [⟨(some 12), .bin .eql (.t 4) (.c (.int .i64 3)), none, []⟩,
    ⟨(some 10), .mov (.t 12), none, []⟩] [2, 4, 10])))
  (.cond (.t 10) (.seq (.reg false [⟨(some 13), .build [(.bool false), (.bool false), (.bool false), (.bool false), (.bool false), (.bool false), (.int .i64 0)] [(3, 1, (.c (.bool true)))], none, []⟩,
    ⟨none, .store true 7 (.t 2) (.t 13), none, []⟩,
    ⟨(some 3), .mov (.c (.bool true)), none, []⟩] [2, 3])
  .ret) (.seq (.seq (.reg false [⟨(some 15), .bin .eql (.t 4) (.c (.int .i64 4)), none, []⟩,
    ⟨(some 14), .mov (.t 15), none, []⟩] [2, 4, 14])
  (.cond (.t 14) .skip (.seq (.reg false [⟨(some 16), .bin .eql (.t 4) (.c (.int .i64 5)), none, []⟩,
    ⟨(some 14), .mov (.t 16), none, []⟩] [2, 4, 14])
  (.cond (.t 14) .skip (.seq (.reg false [⟨(some 17), .bin .eql (.t 4) (.c (.int .i64 6)), none, []⟩,
    ⟨(some 14), .mov (.t 17), none, []⟩] [2, 4, 14])
  (.cond (.t 14) .skip (.seq (.reg false [⟨(some 18), .bin .eql (.t 4) (.c (.int .i64 7)), none, []⟩,
    ⟨(some 14), .mov (.t 18), none, []⟩] [2, 4, 14])
  (.cond (.t 14) .skip (.reg false [⟨(some 19), .bin .eql (.t 4) (.c (.int .i64 8)), none, []⟩,
    ⟨(some 14), .mov (.t 19), none, []⟩] [2, 4, 14])))))))))
  (.cond (.t 14) (.seq (.reg false [⟨(some 20), .build [(.bool false), (.bool false), (.bool false), (.bool false), (.bool false), (.bool false), (.int .i64 0)] [(2, 1, (.c (.bool true)))], none, []⟩,
    ⟨none, .store true 7 (.t 2) (.t 20), none, []⟩,
    ⟨(some 3), .mov (.c (.bool true)), none, []⟩] [2, 3])
  .ret) (.seq (.seq (.reg false [⟨(some 22), .bin .eql (.t 4) (.c (.int .i64 9)), none, []⟩,
    ⟨(some 21), .mov (.t 22), none, []⟩] [2, 4, 21])
  (.cond (.t 21) .skip (.seq (.reg false [⟨(some 23), .bin .eql (.t 4) (.c (.int .i64 10)), none, []⟩,
    ⟨(some 21), .mov (.t 23), none, []⟩] [2, 4, 21])
  (.cond (.t 21) .skip (.seq (.reg false [⟨(some 24), .bin .eql (.t 4) (.c (.int .i64 12)), none, []⟩,
    ⟨(some 21), .mov (.t 24), none, []⟩] [2, 4, 21])
  (.cond (.t 21) .skip (.seq (.reg false [⟨(some 25), .bin .eql (.t 4) (.c (.int .i64 13)), none, []⟩,
    ⟨(some 21), .mov (.t 25), none, []⟩] [2, 4, 21])
  (.cond (.t 21) .skip (.seq (.reg false [⟨(some 26), .bin .eql (.t 4) (.c (.int .i64 15)), none, []⟩,
    ⟨(some 21), .mov (.t 26), none, []⟩] [2, 4, 21])
  (.cond (.t 21) .skip (.reg false [⟨(some 27), .bin .eql (.t 4) (.c (.int .i64 16)), none, []⟩,
    ⟨(some 21), .mov (.t 27), none, []⟩] [2, 4, 21])))))))))))
  (.cond (.t 21) (.seq (.reg false [⟨(some 28), .build [(.bool false), (.bool false), (.bool false), (.bool false), (.bool false), (.bool false), (.int .i64 0)] [(0, 1, (.c (.bool true)))], none, []⟩,
    ⟨none, .store true 7 (.t 2) (.t 28), none, []⟩,
    ⟨(some 3), .mov (.c (.bool true)), none, []⟩] [2, 3])
  .ret) (.seq (.reg false [⟨(some 30), .bin .eql (.t 4) (.c (.int .i64 11)), none, []⟩,
    ⟨(some 29), .mov (.t 30), none, []⟩] [2, 4, 29])
  (.cond (.t 29) (.seq (.reg false [⟨(some 31), .build [(.bool false), (.bool false), (.bool false), (.bool false), (.bool false), (.bool false), (.int .i64 0)] [(4, 1, (.c (.bool true)))], none, []⟩,
    ⟨none, .store true 7 (.t 2) (.t 31), none, []⟩,
    ⟨(some 3), .mov (.c (.bool true)), none, []⟩] [2, 3])
  .ret) (.seq (.reg false [⟨(some 33), .bin .eql (.t 4) (.c (.int .i64 14)), none, []⟩,
    ⟨(some 32), .mov (.t 33), none, []⟩] [2, 4, 32])
  (.cond (.t 32) (.seq (.reg false [⟨(some 34), .build [(.bool false), (.bool false), (.bool false), (.bool false), (.bool false), (.bool false), (.int .i64 0)] [], none, []⟩,
    ⟨none, .store true 7 (.t 2) (.t 34), none, []⟩,
    ⟨(some 3), .mov (.c (.bool true)), none, []⟩] [2, 3])
  .ret) (.seq (.seq (.reg false [⟨(some 36), .bin .eql (.t 4) (.c (.int .i64 19)), none, []⟩,
    ⟨(some 35), .mov (.t 36), none, []⟩] [2, 4, 35])
  (.cond (.t 35) .skip (.seq (.reg false [⟨(some 37), .bin .eql (.t 4) (.c (.int .i64 20)), none, []⟩,
    ⟨(some 35), .mov (.t 37), none, []⟩] [2, 4, 35])
  (.cond (.t 35) .skip (.seq (.reg false [⟨(some 38), .bin .eql (.t 4) (.c (.int .i64 21)), none, []⟩,
    ⟨(some 35), .mov (.t 38), none, []⟩] [2, 4, 35])
  (.cond (.t 35) .skip (.reg false [⟨(some 39), .bin .eql (.t 4) (.c (.int .i64 27)), none, []⟩,
    ⟨(some 35), .mov (.t 39), none, []⟩] [2, 4, 35])))))))
  (.cond (.t 35) (.seq (.reg false [⟨(some 40), .build [(.bool false), (.bool false), (.bool false), (.bool false), (.bool false), (.bool false), (.int .i64 0)] [(6, 1, (.c (.int .i64 (-1))))], none, []⟩,
    ⟨none, .store true 7 (.t 2) (.t 40), none, []⟩,
    ⟨(some 3), .mov (.c (.bool true)), none, []⟩] [2, 3])
  .ret) (.seq (.seq (.reg false [⟨(some 42), .bin .eql (.t 4) (.c (.int .i64 22)), none, []⟩,
    ⟨(some 41), .mov (.t 42), none, []⟩] [2, 4, 41])
  (.cond (.t 41) .skip (.seq (.reg false [⟨(some 43), .bin .eql (.t 4) (.c (.int .i64 25)), none, []⟩,
    ⟨(some 41), .mov (.t 43), none, []⟩] [2, 4, 41])
  (.cond (.t 41) .skip (.seq (.reg false [⟨(some 44), .bin .eql (.t 4) (.c (.int .i64 33)), none, []⟩,
    ⟨(some 41), .mov (.t 44), none, []⟩] [2, 4, 41])
  (.cond (.t 41) .skip (.seq (.reg false [⟨(some 45), .bin .eql (.t 4) (.c (.int .i64 34)), none, []⟩,
    ⟨(some 41), .mov (.t 45), none, []⟩] [2, 4, 41])
  (.cond (.t 41) .skip (.reg false [⟨(some 46), .bin .eql (.t 4) (.c (.int .i64 35)), none, []⟩,
    ⟨(some 41), .mov (.t 46), none, []⟩] [2, 4, 41])))))))))
  (.cond (.t 41) (.seq (.reg false [⟨(some 47), .build [(.bool false), (.bool false), (.bool false), (.bool false), (.bool false), (.bool false), (.int .i64 0)] [(6, 1, (.c (.int .i64 1)))], none, []⟩,
    ⟨none, .store true 7 (.t 2) (.t 47), none, []⟩,
    ⟨(some 3), .mov (.c (.bool true)), none, []⟩] [2, 3])
  .ret) (.seq (.reg false [⟨(some 49), .bin .eql (.t 4) (.c (.int .i64 23)), none, []⟩,
    ⟨(some 48), .mov (.t 49), none, []⟩] [2, 4, 48])
  (.cond (.t 48) (.seq (.reg false [⟨(some 50), .build [(.bool false), (.bool false), (.bool false), (.bool false), (.bool false), (.bool false), (.int .i64 0)] [(6, 1, (.c (.int .i64 3)))], none, []⟩,
    ⟨none, .store true 7 (.t 2) (.t 50), none, []⟩,
    ⟨(some 3), .mov (.c (.bool true)), none, []⟩] [2, 3])
  .ret) (.seq (.seq (.reg false [⟨(some 52), .bin .eql (.t 4) (.c (.int .i64 24)), none, []⟩,
    ⟨(some 51), .mov (.t 52), none, []⟩] [2, 4, 51])
  (.cond (.t 51) .skip (.reg false [⟨(some 53), .bin .eql (.t 4) (.c (.int .i64 26)), none, []⟩,
    ⟨(some 51), .mov (.t 53), none, []⟩] [2, 4, 51])))
  (.cond (.t 51) (.seq (.reg false [⟨(some 54), .build [(.bool false), (.bool false), (.bool false), (.bool false), (.bool false), (.bool false), (.int .i64 0)] [(5, 1, (.c (.bool true))), (6, 1, (.c (.int .i64 1)))], none, []⟩,
    ⟨none, .store true 7 (.t 2) (.t 54), none, []⟩,
    ⟨(some 3), .mov (.c (.bool true)), none, []⟩] [2, 3])
  .ret) (.seq (.reg false [⟨(some 56), .bin .eql (.t 4) (.c (.int .i64 28)), none, []⟩,
    ⟨(some 55), .mov (.t 56), none, []⟩] [2, 4, 55])
  (.cond (.t 55) (.seq (.reg false [⟨(some 57), .build [(.bool false), (.bool false), (.bool false), (.bool false), (.bool false), (.bool false), (.int .i64 0)] [(0, 1, (.c (.bool true))), (6, 1, (.c (.int .i64 1)))], none, []⟩,
    ⟨none, .store true 7 (.t 2) (.t 57), none, []⟩,
    ⟨(some 3), .mov (.c (.bool true)), none, []⟩] [2, 3])
  .ret) (.seq (.reg false [⟨(some 59), .bin .eql (.t 4) (.c (.int .i64 29)), none, []⟩,
    ⟨(some 58), .mov (.t 59), none, []⟩] [2, 4, 58])
  (.cond (.t 58) (.seq (.reg false [⟨(some 60), .build [(.bool false), (.bool false), (.bool false), (.bool false), (.bool false), (.bool false), (.int .i64 0)] [(0, 1, (.c (.bool true))), (1, 1, (.c (.bool true))), (6, 1, (.c (.int .i64 1)))], none, []⟩,
    ⟨none, .store true 7 (.t 2) (.t 60), none, []⟩,
    ⟨(some 3), .mov (.c (.bool true)), none, []⟩] [2, 3])
  .ret) (.seq (.reg false [⟨(some 62), .bin .eql (.t 4) (.c (.int .i64 30)), none, []⟩,
    ⟨(some 61), .mov (.t 62), none, []⟩] [2, 4, 61])
  (.cond (.t 61) (.seq (.reg false [⟨(some 63), .build [(.bool false), (.bool false), (.bool false), (.bool false), (.bool false), (.bool false), (.int .i64 0)] [(5, 1, (.c (.bool true))), (6, 1, (.c (.int .i64 (-2))))], none, []⟩,
    ⟨none, .store true 7 (.t 2) (.t 63), none, []⟩,
    ⟨(some 3), .mov (.c (.bool true)), none, []⟩] [2, 3])
  .ret) (.seq (.reg false [⟨(some 65), .bin .eql (.t 4) (.c (.int .i64 31)), none, []⟩,
    ⟨(some 64), .mov (.t 65), none, []⟩] [2, 4, 64])
  (.cond (.t 64) (.seq (.reg false [⟨(some 66), .build [(.bool false), (.bool false), (.bool false), (.bool false), (.bool false), (.bool false), (.int .i64 0)] [(4, 1, (.c (.bool true))), (6, 1, (.c (.int .i64 (-3))))], none, []⟩,
    ⟨none, .store true 7 (.t 2) (.t 66), none, []⟩,
    ⟨(some 3), .mov (.c (.bool true)), none, []⟩] [2, 3])
  .ret) (.seq (.reg false [⟨(some 68), .bin .eql (.t 4) (.c (.int .i64 32)), none, []⟩,
    ⟨(some 67), .mov (.t 68), none, []⟩] [2, 67])
  (.cond (.t 67) (.seq (.reg false [⟨(some 69), .build [(.bool false), (.bool false), (.bool false), (.bool false), (.bool false), (.bool false), (.int .i64 0)] [(5, 1, (.c (.bool true))), (4, 1, (.c (.bool true))), (6, 1, (.c (.int .i64 1)))], none, []⟩,
    ⟨none, .store true 7 (.t 2) (.t 69), none, []⟩,
    ⟨(some 3), .mov (.c (.bool true)), none, []⟩] [2, 3])
  .ret) .skip))))))))))))))))))))))))))))))))
  (.seq (.reg false [⟨(some 70), .build [(.bool false), (.bool false), (.bool false), (.bool false), (.bool false), (.bool false), (.int .i64 0)] [], none, []⟩,
    ⟨none, .store true 7 (.t 2) (.t 70), none, []⟩,
    ⟨(some 3), .mov (.c (.bool false)), none, []⟩] [2, 3])
  .ret)))
def f48 : VFn := ⟨1, 71, f48_c, [.c 2 (some 7), .t 3], true, []⟩
/- (caliper/ir.parts).bare -/
def f49_c : VCode :=
  (.seq (.reg false [⟨(some 2), .box true 7 (.t 0), none, []⟩,
    ⟨(some 3), .box true 10 (.t 1), none, []⟩,
    ⟨(some 4), .mov (.c (.bool false)), none, []⟩] [2, 3])
  (.seq (.reg false [⟨(some 5), .faddr 0 (.t 2), none, []⟩,
    ⟨(some 6), .load none (.t 5), none, []⟩,
    ⟨(some 7), .mov (.t 6), none, []⟩,
    ⟨(some 8), .faddr 1 (.t 3), (some (7, false)), []⟩,
    ⟨(some 9), .load none (.t 8), (some (7, false)), []⟩,
    ⟨(some 10), .bin .eql (.t 9) (.c (.int .i64 0)), (some (7, false)), []⟩,
    ⟨(some 11), .pick (.t 7) (.c (.bool true)) (.t 10), none, []⟩,
    ⟨(some 12), .mov (.t 11), none, []⟩,
    ⟨(some 13), .faddr 1 (.t 2), (some (12, true)), []⟩,
    ⟨(some 14), .load none (.t 13), (some (12, true)), []⟩,
    ⟨(some 15), .mov (.t 14), (some (12, true)), []⟩,
    ⟨(some 16), .faddr 2 (.t 3), (some (15, false)), []⟩,
    ⟨(some 17), .load none (.t 16), (some (15, false)), []⟩,
    ⟨(some 18), .bin .eql (.t 17) (.c (.int .i64 0)), (some (15, false)), []⟩,
    ⟨(some 19), .pick (.t 15) (.c (.bool true)) (.t 18), (some (12, true)), []⟩,
    ⟨(some 20), .pick (.t 12) (.t 19) (.c (.bool false)), none, []⟩,
    ⟨(some 21), .mov (.t 20), none, []⟩,
    ⟨(some 22), .faddr 2 (.t 2), (some (21, true)), []⟩,
    ⟨(some 23), .load none (.t 22), (some (21, true)), []⟩,
    ⟨(some 24), .mov (.t 23), (some (21, true)), []⟩,
    ⟨(some 25), .faddr 3 (.t 3), (some (24, false)), []⟩,
    ⟨(some 26), .load (some 3) (.t 25), (some (24, false)), []⟩,
    ⟨(some 27), .build [(.bool false), (.str ⟨#[]⟩), (.int .i64 0)] [], (some (24, false)), []⟩,
    ⟨(some 28), .eqs false [.bool, .str, .int] (.t 26) (.t 27), (some (24, false)), []⟩,
    ⟨(some 29), .pick (.t 24) (.c (.bool true)) (.t 28), (some (21, true)), []⟩,
    ⟨(some 30), .pick (.t 21) (.t 29) (.c (.bool false)), none, []⟩,
    ⟨(some 31), .mov (.t 30), none, []⟩,
    ⟨(some 32), .faddr 3 (.t 2), (some (31, true)), []⟩,
    ⟨(some 33), .load none (.t 32), (some (31, true)), []⟩,
    ⟨(some 34), .mov (.t 33), (some (31, true)), []⟩,
    ⟨(some 35), .faddr 6 (.t 3), (some (34, false)), []⟩,
    ⟨(some 36), .load none (.t 35), (some (34, false)), []⟩,
    ⟨(some 37), .len (.t 36), (some (34, false)), []⟩,
    ⟨(some 38), .bin .eql (.t 37) (.c (.int .i64 0)), (some (34, false)), []⟩,
    ⟨(some 39), .pick (.t 34) (.c (.bool true)) (.t 38), (some (31, true)), []⟩,
    ⟨(some 40), .pick (.t 31) (.t 39) (.c (.bool false)), none, []⟩,
    ⟨(some 41), .mov (.t 40), none, []⟩,
    ⟨(some 42), .faddr 4 (.t 2), (some (41, true)), []⟩,
    ⟨(some 43), .load none (.t 42), (some (41, true)), []⟩,
    ⟨(some 44), .mov (.t 43), (some (41, true)), []⟩,
    ⟨(some 45), .faddr 8 (.t 3), (some (44, false)), []⟩,
    ⟨(some 46), .load none (.t 45), (some (44, false)), []⟩,
    ⟨(some 47), .len (.t 46), (some (44, false)), []⟩,
    ⟨(some 48), .bin .eql (.t 47) (.c (.int .i64 0)), (some (44, false)), []⟩,
    ⟨(some 49), .pick (.t 44) (.c (.bool true)) (.t 48), (some (41, true)), []⟩,
    ⟨(some 50), .pick (.t 41) (.t 49) (.c (.bool false)), none, []⟩,
    ⟨(some 51), .mov (.t 50), none, []⟩,
    ⟨(some 52), .faddr 5 (.t 2), (some (51, true)), []⟩,
    ⟨(some 53), .load none (.t 52), (some (51, true)), []⟩,
    ⟨(some 54), .mov (.t 53), (some (51, true)), []⟩,
    ⟨(some 55), .faddr 7 (.t 3), (some (54, false)), []⟩,
    ⟨(some 56), .load none (.t 55), (some (54, false)), []⟩,
    ⟨(some 57), .len (.t 56), (some (54, false)), []⟩,
    ⟨(some 58), .bin .eql (.t 57) (.c (.int .i64 0)), (some (54, false)), []⟩,
    ⟨(some 59), .pick (.t 54) (.c (.bool true)) (.t 58), (some (51, true)), []⟩,
    ⟨(some 60), .pick (.t 51) (.t 59) (.c (.bool false)), none, []⟩,
    ⟨(some 4), .mov (.t 60), none, []⟩] [4])
  .ret))
def f49 : VFn := ⟨2, 61, f49_c, [.t 4], true, []⟩
/- (caliper/ir.parts).counted -/
def f50_c : VCode :=
  (.seq (.reg false [⟨(some 2), .box true 7 (.t 0), none, []⟩,
    ⟨(some 3), .box true 10 (.t 1), none, []⟩,
    ⟨(some 4), .mov (.c (.bool false)), none, []⟩] [2, 3])
  (.seq (.reg false [⟨(some 6), .faddr 9 (.t 3), none, []⟩,
    ⟨(some 7), .load none (.t 6), none, []⟩,
    ⟨(some 8), .len (.t 7), none, []⟩,
    ⟨(some 5), .mov (.t 8), none, []⟩] [2, 3, 5])
  (.seq (.seq (.reg false [⟨(some 9), .faddr 6 (.t 2), none, []⟩,
    ⟨(some 10), .load none (.t 9), none, []⟩] [2, 3, 5, 10])
  (.block 0 (.seq (.reg false [⟨(some 12), .bin .eql (.t 10) (.c (.int .i64 (-1))), none, []⟩,
    ⟨(some 11), .mov (.t 12), none, []⟩] [2, 3, 5, 10, 11])
  (.cond (.t 11) (.seq (.reg false [⟨(some 4), .mov (.c (.bool true)), none, []⟩] [4])
  .ret) (.seq (.reg false [⟨(some 14), .bin .eql (.t 10) (.c (.int .i64 (-2))), none, []⟩,
    ⟨(some 13), .mov (.t 14), none, []⟩] [2, 3, 5, 10, 13])
  (.cond (.t 13) (.seq (.reg false [⟨(some 15), .mov (.t 5), none, []⟩,
    ⟨(some 16), .faddr 7 (.t 3), none, []⟩,
    ⟨(some 17), .load none (.t 16), none, []⟩,
    ⟨(some 18), .len (.t 17), none, []⟩,
    ⟨(some 19), .bin .eql (.t 15) (.t 18), none, []⟩,
    ⟨(some 4), .mov (.t 19), none, []⟩] [4])
  .ret) (.seq (.reg false [⟨(some 21), .bin .eql (.t 10) (.c (.int .i64 (-3))), none, []⟩,
    ⟨(some 20), .mov (.t 21), none, []⟩] [2, 3, 5, 20])
  (.cond (.t 20) (.seq (.reg false [⟨(some 22), .mov (.t 5), none, []⟩,
    ⟨(some 23), .faddr 8 (.t 3), none, []⟩,
    ⟨(some 24), .load none (.t 23), none, []⟩,
    ⟨(some 25), .len (.t 24), none, []⟩,
    ⟨(some 26), .bin .eql (.t 22) (.t 25), none, []⟩,
    ⟨(some 4), .mov (.t 26), none, []⟩] [4])
  .ret) .skip))))))))
  (.seq (.reg false [⟨(some 27), .mov (.t 5), none, []⟩,
    ⟨(some 28), .faddr 6 (.t 2), none, []⟩,
    ⟨(some 29), .load none (.t 28), none, []⟩,
    ⟨(some 30), .bin .eql (.t 27) (.t 29), none, []⟩,
    ⟨(some 4), .mov (.t 30), none, []⟩] [4])
  .ret))))
def f50 : VFn := ⟨2, 31, f50_c, [.t 4], true, []⟩
/- caliper/ir.own -/
def f51_c : VCode :=
  (.seq (.reg false [⟨(some 1), .box true 10 (.t 0), none, []⟩,
    ⟨(some 2), .mov (.c (.bool false)), none, []⟩] [1])
  (.seq (.seq (.reg false [⟨(some 3), .faddr 0 (.t 1), none, []⟩,
    ⟨(some 4), .load none (.t 3), none, []⟩] [1, 4])
  (.block 0 (.seq (.reg false [⟨(some 6), .bin .eql (.t 4) (.c (.int .i64 1)), none, []⟩,
    ⟨(some 5), .mov (.t 6), none, []⟩] [1, 4, 5])
  (.cond (.t 5) (.seq (.reg false [⟨(some 7), .faddr 7 (.t 1), none, []⟩,
    ⟨(some 8), .load none (.t 7), none, []⟩,
    ⟨(some 9), .call (.c (.func (.func 56) [] [])) [(.t 8), (.c (.func (.func 87) [] []))], none, []⟩,
    ⟨(some 2), .mov (.t 9), none, []⟩] [2])
  .ret) (.seq (.reg false [⟨(some 11), .bin .eql (.t 4) (.c (.int .i64 2)), none, []⟩,
    ⟨(some 10), .mov (.t 11), none, []⟩] [1, 4, 10])
  (.cond (.t 10) (.seq (.reg false [⟨(some 12), .faddr 6 (.t 1), none, []⟩,
    ⟨(some 13), .load none (.t 12), none, []⟩,
    ⟨(some 14), .len (.t 13), none, []⟩,
    ⟨(some 15), .bin .eql (.t 14) (.c (.int .i64 1)), none, []⟩,
    ⟨(some 2), .mov (.t 15), none, []⟩] [2])
  .ret) (.seq (.reg false [⟨(some 17), .bin .eql (.t 4) (.c (.int .i64 4)), none, []⟩,
    ⟨(some 16), .mov (.t 17), none, []⟩] [1, 4, 16])
  (.cond (.t 16) (.seq (.reg false [⟨(some 18), .faddr 3 (.t 1), none, []⟩,
    ⟨(some 19), .faddr 0 (.t 18), none, []⟩,
    ⟨(some 20), .load none (.t 19), none, []⟩,
    ⟨(some 21), .un .not (.t 20), none, []⟩,
    ⟨(some 22), .mov (.t 21), none, []⟩,
    ⟨(some 23), .faddr 3 (.t 1), (some (22, true)), []⟩,
    ⟨(some 24), .faddr 1 (.t 23), (some (22, true)), []⟩,
    ⟨(some 25), .load none (.t 24), (some (22, true)), []⟩,
    ⟨(some 26), .bin .neq (.t 25) (.c (.str ⟨#[]⟩)), (some (22, true)), []⟩,
    ⟨(some 27), .pick (.t 22) (.t 26) (.c (.bool false)), none, []⟩,
    ⟨(some 2), .mov (.t 27), none, []⟩] [2])
  .ret) (.seq (.reg false [⟨(some 29), .bin .eql (.t 4) (.c (.int .i64 11)), none, []⟩,
    ⟨(some 28), .mov (.t 29), none, []⟩] [1, 4, 28])
  (.cond (.t 28) (.seq (.reg false [⟨(some 30), .faddr 8 (.t 1), none, []⟩,
    ⟨(some 31), .load none (.t 30), none, []⟩,
    ⟨(some 32), .len (.t 31), none, []⟩,
    ⟨(some 33), .bin .eql (.t 32) (.c (.int .i64 1)), none, []⟩,
    ⟨(some 2), .mov (.t 33), none, []⟩] [2])
  .ret) (.seq (.reg false [⟨(some 35), .bin .eql (.t 4) (.c (.int .i64 18)), none, []⟩,
    ⟨(some 34), .mov (.t 35), none, []⟩] [1, 4, 34])
  (.cond (.t 34) (.seq (.reg false [⟨(some 36), .faddr 7 (.t 1), none, []⟩,
    ⟨(some 37), .load none (.t 36), none, []⟩,
    ⟨(some 38), .len (.t 37), none, []⟩,
    ⟨(some 39), .bin .gtr (.t 38) (.c (.int .i64 0)), none, []⟩,
    ⟨(some 2), .mov (.t 39), none, []⟩] [2])
  .ret) (.seq (.seq (.reg false [⟨(some 41), .bin .eql (.t 4) (.c (.int .i64 24)), none, []⟩,
    ⟨(some 40), .mov (.t 41), none, []⟩] [1, 4, 40])
  (.cond (.t 40) .skip (.reg false [⟨(some 42), .bin .eql (.t 4) (.c (.int .i64 26)), none, []⟩,
    ⟨(some 40), .mov (.t 42), none, []⟩] [1, 40])))
  (.cond (.t 40) (.seq (.reg false [⟨(some 43), .faddr 7 (.t 1), none, []⟩,
    ⟨(some 44), .load none (.t 43), none, []⟩,
    ⟨(some 45), .len (.t 44), none, []⟩,
    ⟨(some 46), .bin .eql (.t 45) (.c (.int .i64 1)), none, []⟩,
    ⟨(some 2), .mov (.t 46), none, []⟩] [2])
  .ret) .skip))))))))))))))
  (.seq (.reg false [⟨(some 2), .mov (.c (.bool true)), none, []⟩] [2])
  .ret)))
def f51 : VFn := ⟨1, 47, f51_c, [.t 2], true, []⟩
/- caliper/dec.Check -/
def f52_c : VCode :=
  (.seq (.reg false [⟨(some 1), .box true 3 (.t 0), none, []⟩,
    ⟨(some 2), .mov (.c (.int .i64 0)), none, []⟩] [1])
  (.seq (.reg false [⟨(some 4), .faddr 1 (.t 1), none, []⟩,
    ⟨(some 5), .load none (.t 4), none, []⟩,
    ⟨(some 6), .lens (.t 5), none, []⟩,
    ⟨(some 3), .mov (.t 6), none, []⟩] [1, 3])
  (.seq (.seq (.reg false [⟨(some 7), .mov (.t 3), none, []⟩,
    ⟨(some 8), .bin .eql (.t 7) (.c (.int .i64 0)), none, []⟩] [1, 3, 8])
  (.cond (.t 8) (.seq (.seq (.reg false [⟨(some 9), .load (some 3) (.t 1), none, []⟩,
    ⟨(some 10), .build [(.bool false), (.str ⟨#[]⟩), (.int .i64 0)] [], none, []⟩,
    ⟨(some 11), .eqs true [.bool, .str, .int] (.t 9) (.t 10), none, []⟩] [11])
  (.cond (.t 11) (.seq (.reg false [⟨(some 2), .mov (.c (.int .i64 2)), none, []⟩] [2])
  .ret) .skip))
  (.seq (.reg false [⟨(some 2), .mov (.c (.int .i64 0)), none, []⟩] [2])
  .ret)) .skip))
  (.seq (.seq (.reg false [⟨(some 12), .mov (.t 3), none, []⟩,
    ⟨(some 13), .bin .gtr (.t 12) (.c (.int .i64 65536)), none, []⟩,
    ⟨(some 14), .mov (.t 13), none, []⟩,
    ⟨(some 15), .faddr 1 (.t 1), (some (14, false)), []⟩,
    ⟨(some 16), .load none (.t 15), (some (14, false)), []⟩,
    ⟨(some 17), .idxs (.t 16) (.c (.int .i64 0)), (some (14, false)), []⟩,
    ⟨(some 18), .bin .eql (.t 17) (.c (.int .u8 48)), (some (14, false)), []⟩,
    ⟨(some 19), .pick (.t 14) (.c (.bool true)) (.t 18), none, []⟩,
    ⟨(some 20), .mov (.t 19), none, []⟩,
    ⟨(some 21), .faddr 1 (.t 1), (some (20, false)), []⟩,
    ⟨(some 22), .load none (.t 21), (some (20, false)), []⟩,
    ⟨(some 23), .mov (.t 3), (some (20, false)), []⟩,
    ⟨(some 24), .bin .sub (.t 23) (.c (.int .i64 1)), (some (20, false)), []⟩,
    ⟨(some 25), .idxs (.t 22) (.t 24), (some (20, false)), []⟩,
    ⟨(some 26), .bin .eql (.t 25) (.c (.int .u8 48)), (some (20, false)), []⟩,
    ⟨(some 27), .pick (.t 20) (.c (.bool true)) (.t 26), none, []⟩,
    ⟨(some 28), .mov (.t 27), none, []⟩,
    ⟨(some 29), .faddr 1 (.t 1), (some (28, false)), []⟩,
    ⟨(some 30), .load none (.t 29), (some (28, false)), []⟩,
    ⟨(some 31), .call (.c (.func (.func 89) [] [])) [(.t 30), (.c (.str ⟨#[48, 49, 50, 51, 52, 53, 54, 55, 56, 57]⟩))], (some (28, false)), []⟩,
    ⟨(some 32), .bin .neq (.t 31) (.c (.str ⟨#[]⟩)), (some (28, false)), []⟩,
    ⟨(some 33), .pick (.t 28) (.c (.bool true)) (.t 32), none, []⟩,
    ⟨(some 34), .mov (.t 33), none, []⟩,
    ⟨(some 35), .faddr 2 (.t 1), (some (34, false)), []⟩,
    ⟨(some 36), .load none (.t 35), (some (34, false)), []⟩,
    ⟨(some 37), .bin .lss (.t 36) (.c (.int .i64 (-1000000))), (some (34, false)), []⟩,
    ⟨(some 38), .pick (.t 34) (.c (.bool true)) (.t 37), none, []⟩,
    ⟨(some 39), .mov (.t 38), none, []⟩,
    ⟨(some 40), .faddr 2 (.t 1), (some (39, false)), []⟩,
    ⟨(some 41), .load none (.t 40), (some (39, false)), []⟩,
    ⟨(some 42), .bin .gtr (.t 41) (.c (.int .i64 1000000)), (some (39, false)), []⟩,
    ⟨(some 43), .pick (.t 39) (.c (.bool true)) (.t 42), none, []⟩] [43])
  (.cond (.t 43) (.seq (.reg false [⟨(some 2), .mov (.c (.int .i64 2)), none, []⟩] [2])
  .ret) .skip))
  (.seq (.reg false [⟨(some 2), .mov (.c (.int .i64 0)), none, []⟩] [2])
  .ret)))))
def f52 : VFn := ⟨1, 44, f52_c, [.t 2], true, []⟩
/- caliper/ir.all[caliper/api.Value] -/
def f53_c : VCode :=
  (.seq (.reg false [⟨(some 3), .box false 1 (.t 1), none, []⟩,
    ⟨(some 4), .mov (.c (.bool false)), none, []⟩] [0, 3])
  (.seq (.reg false [⟨(some 5), .mov (.t 0), none, []⟩,
    ⟨(some 6), .mkfunc (.func 91) [] [(.t 3)], none, []⟩,
    ⟨(some 7), .call (.c (.func (.func 90) [] [])) [(.t 5), (.t 6)], none, []⟩,
    ⟨(some 8), .un .not (.t 7), none, []⟩,
    ⟨(some 4), .mov (.t 8), none, []⟩] [4])
  .ret))
def f53 : VFn := ⟨2, 9, f53_c, [.t 4], true, []⟩
/- caliper/ir.fits$1 -/
def f54_c : VCode :=
  (.seq (.reg false [⟨(some 1), .box true 7 (.t 0), none, []⟩,
    ⟨(some 2), .mov (.c (.bool false)), none, []⟩] [1])
  (.seq (.reg false [⟨(some 3), .load (some 7) (.t 1), none, []⟩,
    ⟨(some 4), .call (.c (.func (.func 55) [] [])) [(.t 3)], none, []⟩,
    ⟨(some 5), .bin .eql (.t 4) (.c (.int .i64 0)), none, []⟩,
    ⟨(some 2), .mov (.t 5), none, []⟩] [2])
  .ret))
def f54 : VFn := ⟨1, 6, f54_c, [.t 2], true, []⟩
/- caliper/value.Check -/
def f55_c : VCode :=
  (.seq (.reg false [⟨(some 1), .box true 7 (.t 0), none, []⟩,
    ⟨(some 2), .mov (.c (.int .i64 0)), none, []⟩] [1])
  (.seq (.seq (.reg false [⟨(some 3), .load (some 7) (.t 1), none, []⟩,
    ⟨(some 4), .call (.c (.func (.func 92) [] [])) [(.t 3), (.c (.int .i64 10000))], none, []⟩,
    ⟨(some 5), .un .not (.t 4), none, []⟩] [5])
  (.cond (.t 5) (.seq (.reg false [⟨(some 2), .mov (.c (.int .i64 60)), none, []⟩] [2])
  .ret) .skip))
  (.seq (.reg false [⟨(some 2), .mov (.c (.int .i64 0)), none, []⟩] [2])
  .ret)))
def f55 : VFn := ⟨1, 6, f55_c, [.t 2], true, []⟩
/- caliper/ir.all[string] -/
def f56_c : VCode :=
  (.seq (.reg false [⟨(some 3), .box false 1 (.t 1), none, []⟩,
    ⟨(some 4), .mov (.c (.bool false)), none, []⟩] [0, 3])
  (.seq (.reg false [⟨(some 5), .mov (.t 0), none, []⟩,
    ⟨(some 6), .mkfunc (.func 94) [] [(.t 3)], none, []⟩,
    ⟨(some 7), .call (.c (.func (.func 93) [] [])) [(.t 5), (.t 6)], none, []⟩,
    ⟨(some 8), .un .not (.t 7), none, []⟩,
    ⟨(some 4), .mov (.t 8), none, []⟩] [4])
  .ret))
def f56 : VFn := ⟨2, 9, f56_c, [.t 4], true, []⟩
/- caliper/ir.pattern -/
def f57_c : VCode :=
  (.seq (.reg false [⟨(some 2), .mov (.c (.bool false)), none, []⟩] [0])
  (.seq (.reg false [⟨(some 6), .mov (.t 0), none, []⟩,
    ⟨(some 7), .call (.c (.func (.func 95) [] [])) [(.t 6)], none, []⟩,
    ⟨(some 5), .mov (.t 7), none, []⟩,
    ⟨(some 8), .extract (.t 5) 0, none, []⟩,
    ⟨(some 9), .extract (.t 5) 1, none, []⟩,
    ⟨(some 3), .alloc true [(.int .i64 0), (.sl 0 [] true), (.int .i64 0), (.int .i64 0), (.bool false), (.sl 0 [] true)], none, []⟩,
    ⟨none, .store true 6 (.t 3) (.t 8), none, []⟩,
    ⟨(some 4), .mov (.t 9), none, []⟩] [4])
  (.seq (.reg false [⟨(some 10), .mov (.t 4), none, []⟩,
    ⟨(some 11), .bin .eql (.t 10) (.c (.int .i64 0)), none, []⟩,
    ⟨(some 2), .mov (.t 11), none, []⟩] [2])
  .ret)))
def f57 : VFn := ⟨1, 12, f57_c, [.t 2], true, []⟩
/- caliper/utf.Good -/
def f58_l0 : VCode :=
  (.seq (.reg false [⟨(some 12), .bin .lss (.t 11) (.t 10), none, []⟩] [0, 4, 5, 6, 9, 10, 11, 12])
  (.seq (.cond (.t 12) .skip (.exit 0))
  (.seq (.block 1 (.seq (.reg false [⟨(some 13), .mov (.t 11), none, []⟩,
    ⟨(some 14), .iaddr 1 (.t 9) (.t 11), none, []⟩,
    ⟨(some 15), .load none (.t 14), none, []⟩,
    ⟨(some 7), .mov (.t 13), none, []⟩,
    ⟨(some 8), .mov (.t 15), none, []⟩] [0, 4, 5, 6, 7, 8, 9, 10, 11])
  (.seq (.seq (.reg false [⟨(some 16), .mov (.t 4), none, []⟩,
    ⟨(some 17), .bin .eql (.t 16) (.c (.int .i64 0)), none, []⟩] [0, 4, 5, 6, 7, 8, 9, 10, 11, 17])
  (.cond (.t 17) (.seq (.reg false [⟨(some 19), .mov (.t 8), none, []⟩,
    ⟨(some 20), .call (.c (.func (.func 96) [] [])) [(.t 19)], none, []⟩,
    ⟨(some 18), .mov (.t 20), none, []⟩,
    ⟨(some 21), .extract (.t 18) 0, none, []⟩,
    ⟨(some 22), .extract (.t 18) 1, none, []⟩,
    ⟨(some 23), .extract (.t 18) 2, none, []⟩,
    ⟨(some 4), .mov (.t 21), none, []⟩,
    ⟨(some 5), .mov (.t 22), none, []⟩,
    ⟨(some 6), .mov (.t 23), none, []⟩] [0, 4, 5, 6, 7, 9, 10, 11])
  (.seq (.seq (.reg false [⟨(some 24), .mov (.t 4), none, []⟩,
    ⟨(some 25), .bin .lss (.t 24) (.c (.int .i64 0)), none, []⟩] [0, 4, 5, 6, 7, 9, 10, 11, 25])
  (.cond (.t 25) (.seq (.reg false [⟨(some 26), .mov (.t 7), none, []⟩,
    ⟨(some 2), .mov (.t 26), none, []⟩,
    ⟨(some 3), .mov (.c (.bool false)), none, []⟩] [2, 3])
  .ret) .skip))
  (.exit 1))) .skip))
  (.seq (.seq (.reg false [⟨(some 27), .mov (.t 8), none, []⟩,
    ⟨(some 28), .mov (.t 5), none, []⟩,
    ⟨(some 29), .bin .lss (.t 27) (.t 28), none, []⟩,
    ⟨(some 30), .mov (.t 29), none, []⟩,
    ⟨(some 31), .mov (.t 8), (some (30, false)), []⟩,
    ⟨(some 32), .mov (.t 6), (some (30, false)), []⟩,
    ⟨(some 33), .bin .gtr (.t 31) (.t 32), (some (30, false)), []⟩,
    ⟨(some 34), .pick (.t 30) (.c (.bool true)) (.t 33), none, []⟩] [0, 4, 7, 9, 10, 11, 34])
  (.cond (.t 34) (.seq (.reg false [⟨(some 35), .mov (.t 7), none, []⟩,
    ⟨(some 2), .mov (.t 35), none, []⟩,
    ⟨(some 3), .mov (.c (.bool false)), none, []⟩] [2, 3])
  .ret) .skip))
  (.seq (.reg false [⟨(some 36), .mov (.t 4), none, []⟩,
    ⟨(some 37), .bin .sub (.t 36) (.c (.int .i64 1)), none, []⟩,
    ⟨(some 4), .mov (.t 37), none, []⟩] [0, 4, 9, 10, 11])
  (.reg false [⟨(some 5), .mov (.c (.int .u8 128)), none, []⟩,
    ⟨(some 6), .mov (.c (.int .u8 191)), none, []⟩] [0, 4, 5, 6, 9, 10, 11]))))))
  (.reg false [⟨(some 38), .bin .add (.t 11) (.c (.int .i64 1)), none, []⟩,
    ⟨(some 11), .mov (.t 38), none, []⟩] [0, 4, 5, 6, 9, 10, 11]))))
def f58_c : VCode :=
  (.seq (.reg false [⟨(some 2), .mov (.c (.int .i64 0)), none, []⟩,
    ⟨(some 3), .mov (.c (.bool false)), none, []⟩] [0])
  (.seq (.reg false [⟨(some 4), .mov (.c (.int .i64 0)), none, []⟩] [0, 4])
  (.seq (.reg false [⟨(some 5), .mov (.c (.int .u8 128)), none, []⟩,
    ⟨(some 6), .mov (.c (.int .u8 191)), none, []⟩] [0, 4, 5, 6])
  (.seq (.seq (.reg false [⟨(some 9), .mov (.t 0), none, []⟩,
    ⟨(some 10), .len (.t 9), none, []⟩,
    ⟨(some 11), .mov (.c (.int .i64 0)), none, []⟩] [0, 4, 5, 6, 9, 10, 11])
  (.block 0 (.loop [0, 4, 5, 6, 9, 10, 11] f58_l0)))
  (.seq (.reg false [⟨(some 39), .mov (.t 0), none, []⟩,
    ⟨(some 40), .len (.t 39), none, []⟩,
    ⟨(some 41), .mov (.t 4), none, []⟩,
    ⟨(some 42), .bin .eql (.t 41) (.c (.int .i64 0)), none, []⟩,
    ⟨(some 2), .mov (.t 40), none, []⟩,
    ⟨(some 3), .mov (.t 42), none, []⟩] [2, 3])
  .ret)))))
def f58 : VFn := ⟨1, 43, f58_c, [.t 2, .t 3], true, []⟩
/- slices.ContainsFunc[[]caliper/api.Form,caliper/api.Form] -/
def f59_c : VCode :=
  (.seq (.reg false [⟨(some 4), .mov (.c (.bool false)), none, []⟩] [0, 1])
  (.seq (.reg false [⟨(some 5), .mov (.t 0), none, []⟩,
    ⟨(some 6), .mov (.t 1), none, []⟩,
    ⟨(some 7), .call (.c (.func (.func 97) [] [])) [(.t 5), (.t 6)], none, []⟩,
    ⟨(some 8), .bin .geq (.t 7) (.c (.int .i64 0)), none, []⟩,
    ⟨(some 4), .mov (.t 8), none, []⟩] [4])
  .ret))
def f59 : VFn := ⟨2, 9, f59_c, [.t 4], true, []⟩
/- caliper/ir.all[caliper/api.Form]$1 -/
def f60_c : VCode :=
  (.seq (.reg false [⟨(some 2), .box true 3 (.t 0), none, []⟩,
    ⟨(some 3), .mov (.c (.bool false)), none, []⟩] [1, 2])
  (.seq (.reg false [⟨(some 4), .load none (.t 1), none, []⟩,
    ⟨(some 5), .load (some 3) (.t 2), none, []⟩,
    ⟨(some 6), .call (.t 4) [(.t 5)], none, []⟩,
    ⟨(some 7), .un .not (.t 6), none, []⟩,
    ⟨(some 3), .mov (.t 7), none, []⟩] [3])
  .ret))
def f60 : VFn := ⟨2, 8, f60_c, [.t 3], true, []⟩
/- slices.ContainsFunc[[]caliper/api.Dyn,caliper/api.Dyn] -/
def f61_c : VCode :=
  (.seq (.reg false [⟨(some 4), .mov (.c (.bool false)), none, []⟩] [0, 1])
  (.seq (.reg false [⟨(some 5), .mov (.t 0), none, []⟩,
    ⟨(some 6), .mov (.t 1), none, []⟩,
    ⟨(some 7), .call (.c (.func (.func 98) [] [])) [(.t 5), (.t 6)], none, []⟩,
    ⟨(some 8), .bin .geq (.t 7) (.c (.int .i64 0)), none, []⟩,
    ⟨(some 4), .mov (.t 8), none, []⟩] [4])
  .ret))
def f61 : VFn := ⟨2, 9, f61_c, [.t 4], true, []⟩
/- caliper/ir.all[caliper/api.Dyn]$1 -/
def f62_c : VCode :=
  (.seq (.reg false [⟨(some 2), .box true 3 (.t 0), none, []⟩,
    ⟨(some 3), .mov (.c (.bool false)), none, []⟩] [1, 2])
  (.seq (.reg false [⟨(some 4), .load none (.t 1), none, []⟩,
    ⟨(some 5), .load (some 3) (.t 2), none, []⟩,
    ⟨(some 6), .call (.t 4) [(.t 5)], none, []⟩,
    ⟨(some 7), .un .not (.t 6), none, []⟩,
    ⟨(some 3), .mov (.t 7), none, []⟩] [3])
  .ret))
def f62 : VFn := ⟨2, 8, f62_c, [.t 3], true, []⟩
/- (*caliper/plain.simplifier).typed -/
def f63_l0 : VCode :=
  (.seq (.reg false [⟨(some 11), .bin .lss (.t 10) (.t 9), none, []⟩] [3, 4, 8, 9, 10, 11])
  (.seq (.cond (.t 11) .skip (.exit 0))
  (.seq (.block 1 (.seq (.reg false [⟨(some 12), .iaddr 1 (.t 8) (.t 10), none, []⟩,
    ⟨(some 13), .load none (.t 12), none, []⟩,
    ⟨(some 7), .mov (.t 13), none, []⟩] [3, 4, 7, 8, 9, 10])
  (.seq (.reg false [⟨(some 14), .faddr 7 (.t 3), none, []⟩,
    ⟨(some 15), .load none (.t 14), none, []⟩,
    ⟨(some 16), .mov (.t 7), none, []⟩,
    ⟨(some 17), .call (.c (.func (.func 88) [] [])) [(.t 15), (.t 16)], none, []⟩,
    ⟨(some 18), .un .not (.t 17), none, []⟩] [3, 4, 8, 9, 10, 18])
  (.cond (.t 18) (.seq (.reg false [⟨(some 19), .load (some 10) (.t 3), none, []⟩,
    ⟨none, .store true 10 (.t 4) (.t 19), none, []⟩,
    ⟨(some 5), .mov (.c (.int .i64 0)), none, []⟩] [4, 5])
  .ret) .skip))))
  (.reg false [⟨(some 20), .bin .add (.t 10) (.c (.int .i64 1)), none, []⟩,
    ⟨(some 10), .mov (.t 20), none, []⟩] [3, 4, 8, 9, 10]))))
def f63_c : VCode :=
  (.seq (.reg false [⟨(some 3), .box true 10 (.t 1), none, []⟩,
    ⟨(some 4), .alloc true [(.int .i64 0), (.int .i64 0), (.int .i64 0), (.bool false), (.str ⟨#[]⟩), (.int .i64 0), (.sl 0 [] true), (.sl 0 [] true), (.sl 0 [] true), (.sl 0 [] true)], none, []⟩,
    ⟨(some 5), .mov (.c (.int .i64 0)), none, []⟩] [3, 4])
  (.seq (.seq (.reg false [⟨(some 8), .buildRow false 1 6 [(.str ⟨#[]⟩)] [(0, (.c (.str ⟨#[110, 117, 108, 108]⟩))), (1, (.c (.str ⟨#[98, 111, 111, 108, 101, 97, 110]⟩))), (2, (.c (.str ⟨#[110, 117, 109, 98, 101, 114]⟩))), (3, (.c (.str ⟨#[115, 116, 114, 105, 110, 103]⟩))), (4, (.c (.str ⟨#[97, 114, 114, 97, 121]⟩))), (5, (.c (.str ⟨#[111, 98, 106, 101, 99, 116]⟩)))], none, []⟩,
    ⟨(some 9), .len (.t 8), none, []⟩,
    ⟨(some 10), .mov (.c (.int .i64 0)), none, []⟩] [3, 4, 8, 9, 10])
  (.block 0 (.loop [3, 4, 8, 9, 10] f63_l0)))
  (.seq (.reg false [⟨(some 21), .load (some 10) (.t 3), none, []⟩,
    ⟨none, .store true 10 (.t 4) (.t 21), none, []⟩,
    ⟨(some 5), .mov (.c (.int .i64 1)), none, []⟩] [4, 5])
  .ret)))
def f63 : VFn := ⟨2, 22, f63_c, [.c 4 (some 10), .t 5], true, []⟩
/- (*caliper/plain.simplifier).enum -/
def f64_c : VCode :=
  (.seq (.reg false [⟨(some 3), .box true 10 (.t 1), none, []⟩,
    ⟨(some 4), .alloc true [(.int .i64 0), (.int .i64 0), (.int .i64 0), (.bool false), (.str ⟨#[]⟩), (.int .i64 0), (.sl 0 [] true), (.sl 0 [] true), (.sl 0 [] true), (.sl 0 [] true)], none, []⟩,
    ⟨(some 5), .mov (.c (.int .i64 0)), none, []⟩] [3, 4])
  (.seq (.seq (.reg false [⟨(some 6), .faddr 6 (.t 3), none, []⟩,
    ⟨(some 7), .load none (.t 6), none, []⟩,
    ⟨(some 8), .len (.t 7), none, []⟩,
    ⟨(some 9), .bin .eql (.t 8) (.c (.int .i64 1)), none, []⟩] [3, 4, 9])
  (.cond (.t 9) (.reg false [⟨(some 10), .faddr 0 (.t 3), none, []⟩,
    ⟨none, .store false 1 (.t 10) (.c (.int .i64 2)), none, []⟩] [3, 4]) .skip))
  (.seq (.reg true [⟨(some 11), .load (some 10) (.t 3), none, []⟩,
    ⟨(some 12), .faddr 6 (.t 3), none, []⟩,
    ⟨(some 13), .load none (.t 12), none, []⟩,
    ⟨(some 14), .len (.t 13), none, []⟩,
    ⟨(some 15), .bin .eql (.t 14) (.c (.int .i64 0)), none, []⟩,
    ⟨(some 16), .call (.c (.func (.func 99) [] [])) [(.t 15), (.c (.int .i64 2))], none, []⟩,
    ⟨none, .store true 10 (.t 4) (.t 11), none, []⟩,
    ⟨(some 5), .mov (.t 16), none, []⟩] [4, 5])
  .ret)))
def f64 : VFn := ⟨2, 17, f64_c, [.c 4 (some 10), .t 5], true, []⟩
/- (*caliper/plain.simplifier).least -/
def f65_c : VCode :=
  (.seq (.reg false [⟨(some 3), .box true 10 (.t 1), none, []⟩,
    ⟨(some 4), .alloc true [(.int .i64 0), (.int .i64 0), (.int .i64 0), (.bool false), (.str ⟨#[]⟩), (.int .i64 0), (.sl 0 [] true), (.sl 0 [] true), (.sl 0 [] true), (.sl 0 [] true)], none, []⟩,
    ⟨(some 5), .mov (.c (.int .i64 0)), none, []⟩] [3, 4])
  (.seq (.reg true [⟨(some 6), .load (some 10) (.t 3), none, []⟩,
    ⟨(some 7), .faddr 1 (.t 3), none, []⟩,
    ⟨(some 8), .load none (.t 7), none, []⟩,
    ⟨(some 9), .bin .eql (.t 8) (.c (.int .i64 0)), none, []⟩,
    ⟨(some 10), .call (.c (.func (.func 99) [] [])) [(.t 9), (.c (.int .i64 1))], none, []⟩,
    ⟨none, .store true 10 (.t 4) (.t 6), none, []⟩,
    ⟨(some 5), .mov (.t 10), none, []⟩] [4, 5])
  .ret))
def f65 : VFn := ⟨2, 11, f65_c, [.c 4 (some 10), .t 5], true, []⟩
/- (*caliper/plain.simplifier).named -/
def f66_c : VCode :=
  (.seq (.reg false [⟨(some 3), .box true 10 (.t 1), none, []⟩,
    ⟨(some 4), .alloc true [(.int .i64 0), (.int .i64 0), (.int .i64 0), (.bool false), (.str ⟨#[]⟩), (.int .i64 0), (.sl 0 [] true), (.sl 0 [] true), (.sl 0 [] true), (.sl 0 [] true)], none, []⟩,
    ⟨(some 5), .mov (.c (.int .i64 0)), none, []⟩] [3, 4])
  (.seq (.reg false [⟨(some 6), .mov (.c (.int .i64 0)), none, []⟩] [3, 4, 6])
  (.seq (.seq (.reg false [⟨(some 7), .faddr 0 (.t 3), none, []⟩,
    ⟨(some 8), .load none (.t 7), none, []⟩,
    ⟨(some 9), .bin .eql (.t 8) (.c (.int .i64 18)), none, []⟩] [3, 4, 6, 9])
  (.cond (.t 9) (.reg false [⟨(some 6), .mov (.c (.int .i64 1)), none, []⟩] [3, 4, 6]) .skip))
  (.seq (.reg true [⟨(some 10), .load (some 10) (.t 3), none, []⟩,
    ⟨(some 11), .faddr 7 (.t 3), none, []⟩,
    ⟨(some 12), .load none (.t 11), none, []⟩,
    ⟨(some 13), .len (.t 12), none, []⟩,
    ⟨(some 14), .mov (.t 6), none, []⟩,
    ⟨(some 15), .bin .eql (.t 13) (.t 14), none, []⟩,
    ⟨(some 16), .call (.c (.func (.func 99) [] [])) [(.t 15), (.c (.int .i64 1))], none, []⟩,
    ⟨none, .store true 10 (.t 4) (.t 10), none, []⟩,
    ⟨(some 5), .mov (.t 16), none, []⟩] [4, 5])
  .ret))))
def f66 : VFn := ⟨2, 17, f66_c, [.c 4 (some 10), .t 5], true, []⟩
/- (*caliper/plain.simplifier).all -/
def f67_c : VCode :=
  (.seq (.reg false [⟨(some 3), .box true 10 (.t 1), none, []⟩,
    ⟨(some 4), .alloc true [(.int .i64 0), (.int .i64 0), (.int .i64 0), (.bool false), (.str ⟨#[]⟩), (.int .i64 0), (.sl 0 [] true), (.sl 0 [] true), (.sl 0 [] true), (.sl 0 [] true)], none, []⟩,
    ⟨(some 5), .mov (.c (.int .i64 0)), none, []⟩] [0, 3, 4])
  (.seq (.seq (.reg false [⟨(some 6), .faddr 9 (.t 3), none, []⟩,
    ⟨(some 7), .load none (.t 6), none, []⟩,
    ⟨(some 8), .mov (.t 0), none, []⟩,
    ⟨(some 9), .mkfunc (.func 101) [(.t 8)] [], none, []⟩,
    ⟨(some 10), .call (.c (.func (.func 100) [] [])) [(.t 7), (.t 9)], none, []⟩] [0, 3, 4, 10])
  (.cond (.t 10) (.seq (.reg false [⟨(some 11), .load (some 10) (.t 3), none, []⟩,
    ⟨none, .store true 10 (.t 4) (.t 11), none, []⟩,
    ⟨(some 5), .mov (.c (.int .i64 2)), none, []⟩] [4, 5])
  .ret) .skip))
  (.seq (.reg false [⟨(some 12), .faddr 9 (.t 3), none, []⟩,
    ⟨(some 13), .load none (.t 12), none, []⟩,
    ⟨(some 14), .mov (.t 0), none, []⟩,
    ⟨(some 15), .mkfunc (.func 103) [(.t 14)] [], none, []⟩,
    ⟨(some 16), .call (.c (.func (.func 102) [] [])) [(.t 13), (.t 15)], none, []⟩,
    ⟨(some 17), .faddr 9 (.t 3), none, []⟩,
    ⟨none, .store false 1 (.t 17) (.t 16), none, []⟩] [3, 4])
  (.seq (.reg true [⟨(some 18), .load (some 10) (.t 3), none, []⟩,
    ⟨(some 19), .faddr 9 (.t 3), none, []⟩,
    ⟨(some 20), .load none (.t 19), none, []⟩,
    ⟨(some 21), .len (.t 20), none, []⟩,
    ⟨(some 22), .bin .eql (.t 21) (.c (.int .i64 0)), none, []⟩,
    ⟨(some 23), .call (.c (.func (.func 99) [] [])) [(.t 22), (.c (.int .i64 1))], none, []⟩,
    ⟨none, .store true 10 (.t 4) (.t 18), none, []⟩,
    ⟨(some 5), .mov (.t 23), none, []⟩] [4, 5])
  .ret))))
def f67 : VFn := ⟨2, 24, f67_c, [.c 4 (some 10), .t 5], true, []⟩
/- (*caliper/plain.simplifier).any -/
def f68_c : VCode :=
  (.seq (.reg false [⟨(some 3), .box true 10 (.t 1), none, []⟩,
    ⟨(some 4), .alloc true [(.int .i64 0), (.int .i64 0), (.int .i64 0), (.bool false), (.str ⟨#[]⟩), (.int .i64 0), (.sl 0 [] true), (.sl 0 [] true), (.sl 0 [] true), (.sl 0 [] true)], none, []⟩,
    ⟨(some 5), .mov (.c (.int .i64 0)), none, []⟩] [0, 3, 4])
  (.seq (.reg false [⟨(some 6), .faddr 9 (.t 3), none, []⟩,
    ⟨(some 7), .load none (.t 6), none, []⟩,
    ⟨(some 8), .mov (.t 0), none, []⟩,
    ⟨(some 9), .mkfunc (.func 101) [(.t 8)] [], none, []⟩,
    ⟨(some 10), .call (.c (.func (.func 102) [] [])) [(.t 7), (.t 9)], none, []⟩,
    ⟨(some 11), .faddr 9 (.t 3), none, []⟩,
    ⟨none, .store false 1 (.t 11) (.t 10), none, []⟩] [0, 3, 4])
  (.seq (.seq (.reg false [⟨(some 12), .faddr 9 (.t 3), none, []⟩,
    ⟨(some 13), .load none (.t 12), none, []⟩,
    ⟨(some 14), .len (.t 13), none, []⟩,
    ⟨(some 15), .bin .eql (.t 14) (.c (.int .i64 0)), none, []⟩] [0, 3, 4, 15])
  (.cond (.t 15) (.seq (.reg false [⟨(some 16), .load (some 10) (.t 3), none, []⟩,
    ⟨none, .store true 10 (.t 4) (.t 16), none, []⟩,
    ⟨(some 5), .mov (.c (.int .i64 2)), none, []⟩] [4, 5])
  .ret) .skip))
  (.seq (.reg true [⟨(some 17), .load (some 10) (.t 3), none, []⟩,
    ⟨(some 18), .faddr 9 (.t 3), none, []⟩,
    ⟨(some 19), .load none (.t 18), none, []⟩,
    ⟨(some 20), .mov (.t 0), none, []⟩,
    ⟨(some 21), .mkfunc (.func 103) [(.t 20)] [], none, []⟩,
    ⟨(some 22), .call (.c (.func (.func 102) [] [])) [(.t 19), (.t 21)], none, []⟩,
    ⟨(some 23), .len (.t 22), none, []⟩,
    ⟨(some 24), .bin .eql (.t 23) (.c (.int .i64 0)), none, []⟩,
    ⟨(some 25), .call (.c (.func (.func 99) [] [])) [(.t 24), (.c (.int .i64 1))], none, []⟩,
    ⟨none, .store true 10 (.t 4) (.t 17), none, []⟩,
    ⟨(some 5), .mov (.t 25), none, []⟩] [4, 5])
  .ret))))
def f68 : VFn := ⟨2, 26, f68_c, [.c 4 (some 10), .t 5], true, []⟩
/- (*caliper/plain.simplifier).one -/
def f69_c : VCode :=
  (.seq (.reg false [⟨(some 3), .box true 10 (.t 1), none, []⟩,
    ⟨(some 4), .alloc true [(.int .i64 0), (.int .i64 0), (.int .i64 0), (.bool false), (.str ⟨#[]⟩), (.int .i64 0), (.sl 0 [] true), (.sl 0 [] true), (.sl 0 [] true), (.sl 0 [] true)], none, []⟩,
    ⟨(some 5), .mov (.c (.int .i64 0)), none, []⟩] [0, 3, 4])
  (.seq (.reg false [⟨(some 7), .faddr 9 (.t 3), none, []⟩,
    ⟨(some 8), .load none (.t 7), none, []⟩,
    ⟨(some 9), .mov (.t 0), none, []⟩,
    ⟨(some 10), .mkfunc (.func 101) [(.t 9)] [], none, []⟩,
    ⟨(some 11), .call (.c (.func (.func 102) [] [])) [(.t 8), (.t 10)], none, []⟩,
    ⟨(some 12), .faddr 9 (.t 3), none, []⟩,
    ⟨none, .store false 1 (.t 12) (.t 11), none, []⟩] [0, 3, 4])
  (.seq (.reg false [⟨(some 13), .faddr 9 (.t 3), none, []⟩,
    ⟨(some 14), .load none (.t 13), none, []⟩,
    ⟨(some 15), .len (.t 14), none, []⟩,
    ⟨(some 6), .mov (.t 15), none, []⟩] [0, 3, 4, 6])
  (.seq (.block 0 (.seq (.reg false [⟨(some 17), .mov (.t 6), none, []⟩,
    ⟨(some 18), .bin .eql (.t 17) (.c (.int .i64 0)), none, []⟩,
    ⟨(some 16), .mov (.t 18), none, []⟩] [0, 3, 4, 6, 16])
  (.cond (.t 16) (.seq (.reg false [⟨(some 19), .load (some 10) (.t 3), none, []⟩,
    ⟨none, .store true 10 (.t 4) (.t 19), none, []⟩,
    ⟨(some 5), .mov (.c (.int .i64 2)), none, []⟩] [4, 5])
  .ret) (.seq (.reg false [⟨(some 21), .mov (.t 6), none, []⟩,
    ⟨(some 22), .bin .eql (.t 21) (.c (.int .i64 1)), none, []⟩,
    ⟨(some 20), .mov (.t 22), none, []⟩] [0, 3, 4, 6, 20])
  (.cond (.t 20) (.seq (.reg false [⟨(some 23), .faddr 9 (.t 3), none, []⟩,
    ⟨(some 24), .load none (.t 23), none, []⟩,
    ⟨(some 25), .iaddr 1 (.t 24) (.c (.int .i64 0)), none, []⟩,
    ⟨(some 26), .load none (.t 25), none, []⟩,
    ⟨(some 27), .call (.c (.func (.func 104) [] [])) [(.t 26)], none, []⟩,
    ⟨(some 28), .extract (.t 27) 0, none, []⟩,
    ⟨(some 29), .extract (.t 27) 1, none, []⟩,
    ⟨none, .store true 10 (.t 4) (.t 28), none, []⟩,
    ⟨(some 5), .mov (.t 29), none, []⟩] [4, 5])
  .ret) .skip)))))
  (.seq (.reg true [⟨(some 30), .load (some 10) (.t 3), none, []⟩,
    ⟨(some 31), .mov (.t 6), none, []⟩,
    ⟨(some 32), .faddr 9 (.t 3), none, []⟩,
    ⟨(some 33), .load none (.t 32), none, []⟩,
    ⟨(some 34), .mov (.t 0), none, []⟩,
    ⟨(some 35), .mkfunc (.func 103) [(.t 34)] [], none, []⟩,
    ⟨(some 36), .call (.c (.func (.func 102) [] [])) [(.t 33), (.t 35)], none, []⟩,
    ⟨(some 37), .len (.t 36), none, []⟩,
    ⟨(some 38), .bin .sub (.t 31) (.t 37), none, []⟩,
    ⟨(some 39), .bin .gtr (.t 38) (.c (.int .i64 1)), none, []⟩,
    ⟨(some 40), .call (.c (.func (.func 99) [] [])) [(.t 39), (.c (.int .i64 2))], none, []⟩,
    ⟨none, .store true 10 (.t 4) (.t 30), none, []⟩,
    ⟨(some 5), .mov (.t 40), none, []⟩] [4, 5])
  .ret)))))
def f69 : VFn := ⟨2, 41, f69_c, [.c 4 (some 10), .t 5], true, []⟩
/- (*caliper/plain.simplifier).not -/
def f70_c : VCode :=
  (.seq (.reg false [⟨(some 3), .box true 10 (.t 1), none, []⟩,
    ⟨(some 4), .alloc true [(.int .i64 0), (.int .i64 0), (.int .i64 0), (.bool false), (.str ⟨#[]⟩), (.int .i64 0), (.sl 0 [] true), (.sl 0 [] true), (.sl 0 [] true), (.sl 0 [] true)], none, []⟩,
    ⟨(some 5), .mov (.c (.int .i64 0)), none, []⟩] [0, 3, 4])
  (.seq (.seq (.reg false [⟨(some 6), .mov (.t 0), none, []⟩,
    ⟨(some 7), .faddr 9 (.t 3), none, []⟩,
    ⟨(some 8), .load none (.t 7), none, []⟩,
    ⟨(some 9), .iaddr 1 (.t 8) (.c (.int .i64 0)), none, []⟩,
    ⟨(some 10), .load none (.t 9), none, []⟩,
    ⟨(some 11), .call (.c (.func (.func 103) [] [])) [(.t 6), (.t 10)], none, []⟩] [0, 3, 4, 11])
  (.cond (.t 11) (.seq (.reg false [⟨(some 12), .load (some 10) (.t 3), none, []⟩,
    ⟨none, .store true 10 (.t 4) (.t 12), none, []⟩,
    ⟨(some 5), .mov (.c (.int .i64 2)), none, []⟩] [4, 5])
  .ret) .skip))
  (.seq (.reg true [⟨(some 13), .load (some 10) (.t 3), none, []⟩,
    ⟨(some 14), .mov (.t 0), none, []⟩,
    ⟨(some 15), .faddr 9 (.t 3), none, []⟩,
    ⟨(some 16), .load none (.t 15), none, []⟩,
    ⟨(some 17), .iaddr 1 (.t 16) (.c (.int .i64 0)), none, []⟩,
    ⟨(some 18), .load none (.t 17), none, []⟩,
    ⟨(some 19), .call (.c (.func (.func 101) [] [])) [(.t 14), (.t 18)], none, [1000000, 3]⟩,
    ⟨(some 20), .call (.c (.func (.func 99) [] [])) [(.t 19), (.c (.int .i64 1))], none, []⟩,
    ⟨none, .store true 10 (.t 4) (.t 13), none, []⟩,
    ⟨(some 5), .mov (.t 20), none, []⟩] [4, 5])
  .ret)))
def f70 : VFn := ⟨2, 21, f70_c, [.c 4 (some 10), .t 5], true, []⟩
/- (*caliper/plain.simplifier).ref -/
def f71_c : VCode :=
  (.seq (.reg false [⟨(some 3), .box true 10 (.t 1), none, []⟩,
    ⟨(some 4), .alloc true [(.int .i64 0), (.int .i64 0), (.int .i64 0), (.bool false), (.str ⟨#[]⟩), (.int .i64 0), (.sl 0 [] true), (.sl 0 [] true), (.sl 0 [] true), (.sl 0 [] true)], none, []⟩,
    ⟨(some 5), .mov (.c (.int .i64 0)), none, []⟩] [0, 3, 4])
  (.seq (.seq (.reg false [⟨(some 6), .mov (.t 0), none, []⟩,
    ⟨(some 7), .faddr 9 (.t 3), none, []⟩,
    ⟨(some 8), .load none (.t 7), none, []⟩,
    ⟨(some 9), .iaddr 1 (.t 8) (.c (.int .i64 0)), none, []⟩,
    ⟨(some 10), .load none (.t 9), none, []⟩,
    ⟨(some 11), .call (.c (.func (.func 101) [] [])) [(.t 6), (.t 10)], none, []⟩] [0, 3, 4, 11])
  (.cond (.t 11) (.seq (.reg false [⟨(some 12), .load (some 10) (.t 3), none, []⟩,
    ⟨none, .store true 10 (.t 4) (.t 12), none, []⟩,
    ⟨(some 5), .mov (.c (.int .i64 2)), none, []⟩] [4, 5])
  .ret) .skip))
  (.seq (.reg true [⟨(some 13), .load (some 10) (.t 3), none, []⟩,
    ⟨(some 14), .mov (.t 0), none, []⟩,
    ⟨(some 15), .faddr 9 (.t 3), none, []⟩,
    ⟨(some 16), .load none (.t 15), none, []⟩,
    ⟨(some 17), .iaddr 1 (.t 16) (.c (.int .i64 0)), none, []⟩,
    ⟨(some 18), .load none (.t 17), none, []⟩,
    ⟨(some 19), .call (.c (.func (.func 103) [] [])) [(.t 14), (.t 18)], none, [1000000, 3]⟩,
    ⟨(some 20), .call (.c (.func (.func 99) [] [])) [(.t 19), (.c (.int .i64 1))], none, []⟩,
    ⟨none, .store true 10 (.t 4) (.t 13), none, []⟩,
    ⟨(some 5), .mov (.t 20), none, []⟩] [4, 5])
  .ret)))
def f71 : VFn := ⟨2, 21, f71_c, [.c 4 (some 10), .t 5], true, []⟩
/- (*caliper/plain.simplifier).when -/
def f72_c : VCode :=
  (.seq (.reg false [⟨(some 3), .box true 10 (.t 1), none, []⟩,
    ⟨(some 4), .alloc true [(.int .i64 0), (.int .i64 0), (.int .i64 0), (.bool false), (.str ⟨#[]⟩), (.int .i64 0), (.sl 0 [] true), (.sl 0 [] true), (.sl 0 [] true), (.sl 0 [] true)], none, []⟩,
    ⟨(some 5), .mov (.c (.int .i64 0)), none, []⟩] [0, 3, 4])
  (.seq (.reg true [⟨(some 6), .load (some 10) (.t 3), none, []⟩,
    ⟨(some 7), .mov (.t 0), none, []⟩,
    ⟨(some 8), .faddr 9 (.t 3), none, []⟩,
    ⟨(some 9), .load none (.t 8), none, []⟩,
    ⟨(some 10), .iaddr 1 (.t 9) (.c (.int .i64 0)), none, []⟩,
    ⟨(some 11), .load none (.t 10), none, []⟩,
    ⟨(some 12), .call (.c (.func (.func 103) [] [])) [(.t 7), (.t 11)], none, [1000000, 3]⟩,
    ⟨(some 13), .call (.c (.func (.func 99) [] [])) [(.t 12), (.c (.int .i64 1))], none, []⟩,
    ⟨none, .store true 10 (.t 4) (.t 6), none, []⟩,
    ⟨(some 5), .mov (.t 13), none, []⟩] [4, 5])
  .ret))
def f72 : VFn := ⟨2, 14, f72_c, [.c 4 (some 10), .t 5], true, []⟩
/- (*caliper/plain.simplifier).cond -/
def f73_c : VCode :=
  (.seq (.reg false [⟨(some 3), .box true 10 (.t 1), none, []⟩,
    ⟨(some 4), .alloc true [(.int .i64 0), (.int .i64 0), (.int .i64 0), (.bool false), (.str ⟨#[]⟩), (.int .i64 0), (.sl 0 [] true), (.sl 0 [] true), (.sl 0 [] true), (.sl 0 [] true)], none, []⟩,
    ⟨(some 5), .mov (.c (.int .i64 0)), none, []⟩] [0, 3, 4])
  (.seq (.block 0 (.seq (.reg false [⟨(some 7), .mov (.t 0), none, []⟩,
    ⟨(some 8), .faddr 9 (.t 3), none, []⟩,
    ⟨(some 9), .load none (.t 8), none, []⟩,
    ⟨(some 10), .iaddr 1 (.t 9) (.c (.int .i64 0)), none, []⟩,
    ⟨(some 11), .load none (.t 10), none, []⟩,
    ⟨(some 12), .call (.c (.func (.func 103) [] [])) [(.t 7), (.t 11)], none, []⟩,
    ⟨(some 6), .mov (.t 12), none, []⟩] [0, 3, 4, 6])
  (.cond (.t 6) (.seq (.reg false [⟨(some 13), .faddr 9 (.t 3), none, []⟩,
    ⟨(some 14), .load none (.t 13), none, []⟩,
    ⟨(some 15), .iaddr 1 (.t 14) (.c (.int .i64 1)), none, []⟩,
    ⟨(some 16), .load none (.t 15), none, []⟩,
    ⟨(some 17), .call (.c (.func (.func 104) [] [])) [(.t 16)], none, []⟩,
    ⟨(some 18), .extract (.t 17) 0, none, []⟩,
    ⟨(some 19), .extract (.t 17) 1, none, []⟩,
    ⟨none, .store true 10 (.t 4) (.t 18), none, []⟩,
    ⟨(some 5), .mov (.t 19), none, []⟩] [4, 5])
  .ret) (.seq (.reg false [⟨(some 21), .mov (.t 0), none, []⟩,
    ⟨(some 22), .faddr 9 (.t 3), none, []⟩,
    ⟨(some 23), .load none (.t 22), none, []⟩,
    ⟨(some 24), .iaddr 1 (.t 23) (.c (.int .i64 0)), none, []⟩,
    ⟨(some 25), .load none (.t 24), none, []⟩,
    ⟨(some 26), .call (.c (.func (.func 101) [] [])) [(.t 21), (.t 25)], none, []⟩,
    ⟨(some 20), .mov (.t 26), none, []⟩] [3, 4, 20])
  (.cond (.t 20) (.seq (.reg false [⟨(some 27), .faddr 9 (.t 3), none, []⟩,
    ⟨(some 28), .load none (.t 27), none, []⟩,
    ⟨(some 29), .iaddr 1 (.t 28) (.c (.int .i64 2)), none, []⟩,
    ⟨(some 30), .load none (.t 29), none, []⟩,
    ⟨(some 31), .call (.c (.func (.func 104) [] [])) [(.t 30)], none, []⟩,
    ⟨(some 32), .extract (.t 31) 0, none, []⟩,
    ⟨(some 33), .extract (.t 31) 1, none, []⟩,
    ⟨none, .store true 10 (.t 4) (.t 32), none, []⟩,
    ⟨(some 5), .mov (.t 33), none, []⟩] [4, 5])
  .ret) .skip)))))
  (.seq (.reg false [⟨(some 34), .load (some 10) (.t 3), none, []⟩,
    ⟨none, .store true 10 (.t 4) (.t 34), none, []⟩,
    ⟨(some 5), .mov (.c (.int .i64 0)), none, []⟩] [4, 5])
  .ret)))
def f73 : VFn := ⟨2, 35, f73_c, [.c 4 (some 10), .t 5], true, []⟩
/- slices.Equal[[]int,int] -/
def f74_l0 : VCode :=
  (.seq (.reg false [⟨(some 14), .bin .lss (.t 13) (.t 12), none, []⟩] [0, 1, 12, 13, 14])
  (.seq (.cond (.t 14) .skip (.exit 0))
  (.seq (.block 1 (.seq (.reg false [⟨(some 15), .mov (.t 13), none, []⟩,
    ⟨(some 5), .mov (.t 15), none, []⟩] [0, 1, 5, 12, 13])
  (.seq (.reg true [⟨(some 16), .mov (.t 0), none, []⟩,
    ⟨(some 17), .mov (.t 5), none, []⟩,
    ⟨(some 18), .iaddr 1 (.t 16) (.t 17), none, []⟩,
    ⟨(some 19), .load none (.t 18), none, []⟩,
    ⟨(some 20), .mov (.t 1), none, []⟩,
    ⟨(some 21), .mov (.t 5), none, []⟩,
    ⟨(some 22), .iaddr 1 (.t 20) (.t 21), none, []⟩,
    ⟨(some 23), .load none (.t 22), none, []⟩,
    ⟨(some 24), .bin .neq (.t 19) (.t 23), none, []⟩] [0, 1, 12, 13, 24])
  (.cond (.t 24) (.seq (.reg false [⟨(some 4), .mov (.c (.bool false)), none, []⟩] [4])
  .ret) .skip))))
  (.reg false [⟨(some 25), .bin .add (.t 13) (.c (.int .i64 1)), none, []⟩,
    ⟨(some 13), .mov (.t 25), none, []⟩] [0, 1, 12, 13]))))
def f74_c : VCode :=
  (.seq (.reg false [⟨(some 4), .mov (.c (.bool false)), none, []⟩] [0, 1])
  (.seq (.seq (.reg false [⟨(some 6), .mov (.t 0), none, []⟩,
    ⟨(some 7), .len (.t 6), none, []⟩,
    ⟨(some 8), .mov (.t 1), none, []⟩,
    ⟨(some 9), .len (.t 8), none, []⟩,
    ⟨(some 10), .bin .neq (.t 7) (.t 9), none, []⟩] [0, 1, 10])
  (.cond (.t 10) (.seq (.reg false [⟨(some 4), .mov (.c (.bool false)), none, []⟩] [4])
  .ret) .skip))
  (.seq (.seq (.reg false [⟨(some 11), .mov (.t 0), none, []⟩,
    ⟨(some 12), .len (.t 11), none, []⟩,
    ⟨(some 13), .mov (.c (.int .i64 0)), none, []⟩] [0, 1, 12, 13])
  (.block 0 (.loop [0, 1, 12, 13] f74_l0)))
  (.seq (.reg false [⟨(some 4), .mov (.c (.bool true)), none, []⟩] [4])
  .ret))))
def f74 : VFn := ⟨2, 26, f74_c, [.t 4], true, []⟩
/- caliper/caliperref16.fields -/
/- caliper/caliperref03.Check -/
/- caliper/caliperref16.Needs -/
/- caliper/caliperref16.types -/
/- caliper/caliperref06.Check -/
/- caliper/caliperref09.Parse -/
/- caliper/caliperref01.Good -/
/- caliper/caliperref17.left -/
/- caliper/caliperref16.texted -/
/- caliper/caliperref01.Ints -/
/- caliper/caliperref06.Same -/
/- slices.IndexFunc[[]caliper/api.Rule,caliper/api.Rule] -/
def f86_l0 : VCode :=
  (.seq (.reg false [⟨(some 9), .bin .lss (.t 8) (.t 7), none, []⟩] [0, 1, 7, 8, 9])
  (.seq (.cond (.t 9) .skip (.exit 0))
  (.seq (.block 1 (.seq (.reg false [⟨(some 10), .mov (.t 8), none, []⟩,
    ⟨(some 5), .mov (.t 10), none, []⟩] [0, 1, 5, 7, 8])
  (.seq (.reg false [⟨(some 11), .mov (.t 1), none, []⟩,
    ⟨(some 12), .mov (.t 0), none, []⟩,
    ⟨(some 13), .mov (.t 5), none, []⟩,
    ⟨(some 14), .iaddr 10 (.t 12) (.t 13), none, []⟩,
    ⟨(some 15), .load (some 10) (.t 14), none, []⟩,
    ⟨(some 16), .call (.t 11) [(.t 15)], none, []⟩] [0, 1, 5, 7, 8, 16])
  (.cond (.t 16) (.seq (.reg false [⟨(some 17), .mov (.t 5), none, []⟩,
    ⟨(some 4), .mov (.t 17), none, []⟩] [4])
  .ret) .skip))))
  (.reg false [⟨(some 18), .bin .add (.t 8) (.c (.int .i64 1)), none, []⟩,
    ⟨(some 8), .mov (.t 18), none, []⟩] [0, 1, 7, 8]))))
def f86_c : VCode :=
  (.seq (.reg false [⟨(some 4), .mov (.c (.int .i64 0)), none, []⟩] [0, 1])
  (.seq (.seq (.reg false [⟨(some 6), .mov (.t 0), none, []⟩,
    ⟨(some 7), .len (.t 6), none, []⟩,
    ⟨(some 8), .mov (.c (.int .i64 0)), none, []⟩] [0, 1, 7, 8])
  (.block 0 (.loop [0, 1, 7, 8] f86_l0)))
  (.seq (.reg false [⟨(some 4), .mov (.c (.int .i64 (-1))), none, []⟩] [4])
  .ret)))
def f86 : VFn := ⟨2, 19, f86_c, [.t 4], true, []⟩
/- caliper/ir.own$1 -/
def f87_c : VCode :=
  (.seq (.reg false [⟨(some 2), .mov (.c (.bool false)), none, []⟩] [0])
  (.seq (.reg false [⟨(some 3), .buildRow false 1 7 [(.str ⟨#[]⟩)] [(0, (.c (.str ⟨#[97, 114, 114, 97, 121]⟩))), (1, (.c (.str ⟨#[98, 111, 111, 108, 101, 97, 110]⟩))), (2, (.c (.str ⟨#[105, 110, 116, 101, 103, 101, 114]⟩))), (3, (.c (.str ⟨#[110, 117, 108, 108]⟩))), (4, (.c (.str ⟨#[110, 117, 109, 98, 101, 114]⟩))), (5, (.c (.str ⟨#[111, 98, 106, 101, 99, 116]⟩))), (6, (.c (.str ⟨#[115, 116, 114, 105, 110, 103]⟩)))], none, []⟩,
    ⟨(some 4), .mov (.t 0), none, []⟩,
    ⟨(some 5), .call (.c (.func (.func 88) [] [])) [(.t 3), (.t 4)], none, []⟩,
    ⟨(some 2), .mov (.t 5), none, []⟩] [2])
  .ret))
def f87 : VFn := ⟨1, 6, f87_c, [.t 2], true, []⟩
/- slices.Contains[[]string,string] -/
def f88_c : VCode :=
  (.seq (.reg false [⟨(some 4), .mov (.c (.bool false)), none, []⟩] [0, 1])
  (.seq (.reg false [⟨(some 5), .mov (.t 0), none, []⟩,
    ⟨(some 6), .mov (.t 1), none, []⟩,
    ⟨(some 7), .call (.c (.func (.func 111) [] [])) [(.t 5), (.t 6)], none, []⟩,
    ⟨(some 8), .bin .geq (.t 7) (.c (.int .i64 0)), none, []⟩,
    ⟨(some 4), .mov (.t 8), none, []⟩] [4])
  .ret))
def f88 : VFn := ⟨2, 9, f88_c, [.t 4], true, []⟩
/- strings.Trim -/
/- slices.ContainsFunc[[]caliper/api.Value,caliper/api.Value] -/
def f90_c : VCode :=
  (.seq (.reg false [⟨(some 4), .mov (.c (.bool false)), none, []⟩] [0, 1])
  (.seq (.reg false [⟨(some 5), .mov (.t 0), none, []⟩,
    ⟨(some 6), .mov (.t 1), none, []⟩,
    ⟨(some 7), .call (.c (.func (.func 119) [] [])) [(.t 5), (.t 6)], none, []⟩,
    ⟨(some 8), .bin .geq (.t 7) (.c (.int .i64 0)), none, []⟩,
    ⟨(some 4), .mov (.t 8), none, []⟩] [4])
  .ret))
def f90 : VFn := ⟨2, 9, f90_c, [.t 4], true, []⟩
/- caliper/ir.all[caliper/api.Value]$1 -/
def f91_c : VCode :=
  (.seq (.reg false [⟨(some 2), .box true 7 (.t 0), none, []⟩,
    ⟨(some 3), .mov (.c (.bool false)), none, []⟩] [1, 2])
  (.seq (.reg false [⟨(some 4), .load none (.t 1), none, []⟩,
    ⟨(some 5), .load (some 7) (.t 2), none, []⟩,
    ⟨(some 6), .call (.t 4) [(.t 5)], none, []⟩,
    ⟨(some 7), .un .not (.t 6), none, []⟩,
    ⟨(some 3), .mov (.t 7), none, []⟩] [3])
  .ret))
def f91 : VFn := ⟨2, 8, f91_c, [.t 3], true, []⟩
/- caliper/value.fits -/
/- slices.ContainsFunc[[]string,string] -/
def f93_c : VCode :=
  (.seq (.reg false [⟨(some 4), .mov (.c (.bool false)), none, []⟩] [0, 1])
  (.seq (.reg false [⟨(some 5), .mov (.t 0), none, []⟩,
    ⟨(some 6), .mov (.t 1), none, []⟩,
    ⟨(some 7), .call (.c (.func (.func 123) [] [])) [(.t 5), (.t 6)], none, []⟩,
    ⟨(some 8), .bin .geq (.t 7) (.c (.int .i64 0)), none, []⟩,
    ⟨(some 4), .mov (.t 8), none, []⟩] [4])
  .ret))
def f93 : VFn := ⟨2, 9, f93_c, [.t 4], true, []⟩
/- caliper/ir.all[string]$1 -/
def f94_c : VCode :=
  (.seq (.reg false [⟨(some 3), .mov (.c (.bool false)), none, []⟩] [0, 1])
  (.seq (.reg false [⟨(some 4), .load none (.t 1), none, []⟩,
    ⟨(some 5), .mov (.t 0), none, []⟩,
    ⟨(some 6), .call (.t 4) [(.t 5)], none, []⟩,
    ⟨(some 7), .un .not (.t 6), none, []⟩,
    ⟨(some 3), .mov (.t 7), none, []⟩] [3])
  .ret))
def f94 : VFn := ⟨2, 8, f94_c, [.t 3], true, []⟩
/- caliper/rx.Parse -/
def d95 : VDef := ⟨[(.reg false [⟨(some 2), .alloc true [(.int .i64 0), (.sl 0 [] true), (.int .i64 0), (.int .i64 0), (.bool false), (.sl 0 [] true)], none, []⟩,
    ⟨(some 3), .alloc false [(.int .i64 0)], none, []⟩] [0, 2, 3]),
  (.reg false [⟨(some 8), .mov (.t 0), none, []⟩,
    ⟨(some 9), .conv .strToBytes (.t 8), none, []⟩,
    ⟨(some 10), .call (.c (.func (.func 124) [] [])) [(.t 9)], none, []⟩,
    ⟨(some 7), .mov (.t 10), none, []⟩,
    ⟨(some 11), .extract (.t 7) 0, none, []⟩,
    ⟨(some 12), .extract (.t 7) 1, none, []⟩,
    ⟨(some 4), .mov (.t 11), none, []⟩,
    ⟨(some 5), .mov (.t 12), none, []⟩] [0, 2, 3, 4, 5]),
  (.seq (.reg false [⟨(some 13), .mov (.t 5), none, []⟩,
    ⟨(some 14), .bin .neq (.t 13) (.c (.int .i64 0)), none, []⟩,
    ⟨(some 15), .mov (.t 14), none, []⟩,
    ⟨(some 16), .mov (.t 0), (some (15, false)), []⟩,
    ⟨(some 17), .lens (.t 16), (some (15, false)), []⟩,
    ⟨(some 18), .bin .gtr (.t 17) (.c (.int .i64 4096)), (some (15, false)), []⟩,
    ⟨(some 19), .pick (.t 15) (.c (.bool true)) (.t 18), none, []⟩] [2, 3, 4, 19])
  (.cond (.t 19) (.seq (.reg false [⟨(some 20), .build [(.int .i64 0), (.sl 0 [] true), (.int .i64 0), (.int .i64 0), (.bool false), (.sl 0 [] true)] [], none, []⟩,
    ⟨none, .store true 6 (.t 2) (.t 20), none, []⟩,
    ⟨none, .store false 1 (.t 3) (.c (.int .i64 90)), none, []⟩] [2, 3])
  .ret) .skip))],
  .mkfunc (.func 125) [] [(.t 2), (.t 3)], 21,
  (.seq (.reg false [⟨(some 22), .mov (.t 4), none, []⟩,
    ⟨(some 23), .build [(.sl 0 [] true), (.int .i64 0)] [(0, 1, (.t 22))], none, []⟩,
    ⟨(some 24), .box true 2 (.t 23), none, []⟩,
    ⟨(some 6), .mov (.t 24), none, []⟩] [2, 3, 6])
  (.seq (.reg false [⟨(some 25), .mov (.t 6), none, []⟩,
    ⟨(some 26), .call (.c (.func (.func 126) [] [])) [(.t 25)], none, []⟩,
    ⟨none, .store true 6 (.t 2) (.t 26), none, []⟩] [2, 3, 6])
  (.seq (.reg false [⟨(some 27), .mov (.t 6), none, []⟩,
    ⟨(some 28), .nilck (.t 27), none, []⟩,
    ⟨(some 29), .faddr 0 (.t 28), none, []⟩,
    ⟨(some 30), .load none (.t 29), none, []⟩,
    ⟨(some 31), .len (.t 30), none, []⟩,
    ⟨(some 32), .bin .eql (.t 31) (.c (.int .i64 0)), none, []⟩,
    ⟨(some 33), .call (.c (.func (.func 127) [] [])) [(.t 32)], none, []⟩] [2, 3])
  (.seq (.reg false [⟨(some 34), .load (some 6) (.t 2), none, []⟩,
    ⟨none, .store true 6 (.t 2) (.t 34), none, []⟩,
    ⟨none, .store false 1 (.t 3) (.c (.int .i64 0)), none, []⟩] [2, 3])
  .ret)))),
  ⟨1, 35, .skip, [.c 2 (some 6), .c 3 none], true, []⟩, 125, 5,
  (.block 0 (.seq (.reg false [⟨(some 7), .isnil .iface false (.t 5), none, []⟩] [0, 1, 5, 7])
  (.cond (.t 7) (.reg false [⟨(some 2), .mov (.t 5), none, []⟩] []) (.seq (.reg false [⟨(some 8), .assert 159 (.agg []) (.t 5) true, none, []⟩,
    ⟨(some 9), .extract (.t 8) 1, none, []⟩,
    ⟨(some 10), .extract (.t 8) 0, none, []⟩] [0, 1, 5, 9, 10])
  (.cond (.t 9) (.seq (.reg false [⟨(some 3), .alloc true [], none, []⟩,
    ⟨none, .store true 0 (.t 3) (.t 10), none, []⟩] [0, 1])
  (.reg false [⟨(some 11), .build [(.int .i64 0), (.sl 0 [] true), (.int .i64 0), (.int .i64 0), (.bool false), (.sl 0 [] true)] [], none, []⟩,
    ⟨none, .store true 6 (.t 0) (.t 11), none, []⟩,
    ⟨none, .store false 1 (.t 1) (.c (.int .i64 90)), none, []⟩] [])) (.seq (.reg false [⟨(some 4), .mov (.t 5), none, []⟩] [4])
  (.reg false [⟨(some 6), .mov (.t 4), none, []⟩,
    ⟨none, .panic (.t 6), none, []⟩] []))))))), ⟨2, 12, .skip, [], true, []⟩⟩
/- caliper/utf.goes -/
/- slices.IndexFunc[[]caliper/api.Form,caliper/api.Form] -/
def f97_l0 : VCode :=
  (.seq (.reg false [⟨(some 9), .bin .lss (.t 8) (.t 7), none, []⟩] [0, 1, 7, 8, 9])
  (.seq (.cond (.t 9) .skip (.exit 0))
  (.seq (.block 1 (.seq (.reg false [⟨(some 10), .mov (.t 8), none, []⟩,
    ⟨(some 5), .mov (.t 10), none, []⟩] [0, 1, 5, 7, 8])
  (.seq (.reg false [⟨(some 11), .mov (.t 1), none, []⟩,
    ⟨(some 12), .mov (.t 0), none, []⟩,
    ⟨(some 13), .mov (.t 5), none, []⟩,
    ⟨(some 14), .iaddr 3 (.t 12) (.t 13), none, []⟩,
    ⟨(some 15), .load (some 3) (.t 14), none, []⟩,
    ⟨(some 16), .call (.t 11) [(.t 15)], none, []⟩] [0, 1, 5, 7, 8, 16])
  (.cond (.t 16) (.seq (.reg false [⟨(some 17), .mov (.t 5), none, []⟩,
    ⟨(some 4), .mov (.t 17), none, []⟩] [4])
  .ret) .skip))))
  (.reg false [⟨(some 18), .bin .add (.t 8) (.c (.int .i64 1)), none, []⟩,
    ⟨(some 8), .mov (.t 18), none, []⟩] [0, 1, 7, 8]))))
def f97_c : VCode :=
  (.seq (.reg false [⟨(some 4), .mov (.c (.int .i64 0)), none, []⟩] [0, 1])
  (.seq (.seq (.reg false [⟨(some 6), .mov (.t 0), none, []⟩,
    ⟨(some 7), .len (.t 6), none, []⟩,
    ⟨(some 8), .mov (.c (.int .i64 0)), none, []⟩] [0, 1, 7, 8])
  (.block 0 (.loop [0, 1, 7, 8] f97_l0)))
  (.seq (.reg false [⟨(some 4), .mov (.c (.int .i64 (-1))), none, []⟩] [4])
  .ret)))
def f97 : VFn := ⟨2, 19, f97_c, [.t 4], true, []⟩
/- slices.IndexFunc[[]caliper/api.Dyn,caliper/api.Dyn] -/
def f98_l0 : VCode :=
  (.seq (.reg false [⟨(some 9), .bin .lss (.t 8) (.t 7), none, []⟩] [0, 1, 7, 8, 9])
  (.seq (.cond (.t 9) .skip (.exit 0))
  (.seq (.block 1 (.seq (.reg false [⟨(some 10), .mov (.t 8), none, []⟩,
    ⟨(some 5), .mov (.t 10), none, []⟩] [0, 1, 5, 7, 8])
  (.seq (.reg false [⟨(some 11), .mov (.t 1), none, []⟩,
    ⟨(some 12), .mov (.t 0), none, []⟩,
    ⟨(some 13), .mov (.t 5), none, []⟩,
    ⟨(some 14), .iaddr 3 (.t 12) (.t 13), none, []⟩,
    ⟨(some 15), .load (some 3) (.t 14), none, []⟩,
    ⟨(some 16), .call (.t 11) [(.t 15)], none, []⟩] [0, 1, 5, 7, 8, 16])
  (.cond (.t 16) (.seq (.reg false [⟨(some 17), .mov (.t 5), none, []⟩,
    ⟨(some 4), .mov (.t 17), none, []⟩] [4])
  .ret) .skip))))
  (.reg false [⟨(some 18), .bin .add (.t 8) (.c (.int .i64 1)), none, []⟩,
    ⟨(some 8), .mov (.t 18), none, []⟩] [0, 1, 7, 8]))))
def f98_c : VCode :=
  (.seq (.reg false [⟨(some 4), .mov (.c (.int .i64 0)), none, []⟩] [0, 1])
  (.seq (.seq (.reg false [⟨(some 6), .mov (.t 0), none, []⟩,
    ⟨(some 7), .len (.t 6), none, []⟩,
    ⟨(some 8), .mov (.c (.int .i64 0)), none, []⟩] [0, 1, 7, 8])
  (.block 0 (.loop [0, 1, 7, 8] f98_l0)))
  (.seq (.reg false [⟨(some 4), .mov (.c (.int .i64 (-1))), none, []⟩] [4])
  .ret)))
def f98 : VFn := ⟨2, 19, f98_c, [.t 4], true, []⟩
/- caliper/plain.when -/
def f99_c : VCode :=
  (.seq (.reg false [⟨(some 4), .mov (.c (.int .i64 0)), none, []⟩] [0, 1])
  (.seq (.seq (.reg false [⟨(some 5), .mov (.t 0), none, []⟩] [1, 5])
  (.cond (.t 5) (.seq (.reg false [⟨(some 6), .mov (.t 1), none, []⟩,
    ⟨(some 4), .mov (.t 6), none, []⟩] [4])
  .ret) .skip))
  (.seq (.reg false [⟨(some 4), .mov (.c (.int .i64 0)), none, []⟩] [4])
  .ret)))
def f99 : VFn := ⟨2, 7, f99_c, [.t 4], true, []⟩
/- slices.ContainsFunc[[]int,int] -/
def f100_c : VCode :=
  (.seq (.reg false [⟨(some 4), .mov (.c (.bool false)), none, []⟩] [0, 1])
  (.seq (.reg false [⟨(some 5), .mov (.t 0), none, []⟩,
    ⟨(some 6), .mov (.t 1), none, []⟩,
    ⟨(some 7), .call (.c (.func (.func 128) [] [])) [(.t 5), (.t 6)], none, []⟩,
    ⟨(some 8), .bin .geq (.t 7) (.c (.int .i64 0)), none, []⟩,
    ⟨(some 4), .mov (.t 8), none, []⟩] [4])
  .ret))
def f100 : VFn := ⟨2, 9, f100_c, [.t 4], true, []⟩
/- (*caliper/plain.simplifier).no -/
def f101_c : VCode :=
  (.seq (.reg false [⟨(some 4), .mov (.c (.bool false)), none, []⟩] [0, 1])
  (.seq (.reg false [⟨(some 5), .mov (.t 0), none, []⟩,
    ⟨(some 6), .nilck (.t 5), none, []⟩,
    ⟨(some 7), .faddr 0 (.t 6), none, []⟩,
    ⟨(some 8), .faddr 0 (.t 7), none, []⟩,
    ⟨(some 9), .load none (.t 8), none, []⟩,
    ⟨(some 10), .mov (.t 1), none, []⟩,
    ⟨(some 11), .iaddr 3 (.t 9) (.t 10), none, []⟩,
    ⟨(some 12), .faddr 0 (.t 11), none, []⟩,
    ⟨(some 13), .load none (.t 12), none, []⟩,
    ⟨(some 4), .mov (.t 13), none, []⟩] [4])
  .ret))
def f101 : VFn := ⟨2, 14, f101_c, [.t 4], true, []⟩
/- caliper/plain.without -/
def f102_c : VCode :=
  (.seq (.reg false [⟨(some 4), .nilrow 1, none, []⟩] [0, 1])
  (.seq (.reg false [⟨(some 5), .mov (.t 0), none, []⟩,
    ⟨(some 6), .call (.c (.func (.func 130) [] [])) [(.t 5)], none, []⟩,
    ⟨(some 7), .mov (.t 1), none, []⟩,
    ⟨(some 8), .call (.c (.func (.func 129) [] [])) [(.t 6), (.t 7)], none, []⟩,
    ⟨(some 4), .mov (.t 8), none, []⟩] [4])
  .ret))
def f102 : VFn := ⟨2, 9, f102_c, [.t 4], true, []⟩
/- (*caliper/plain.simplifier).yes -/
def f103_c : VCode :=
  (.seq (.reg false [⟨(some 4), .mov (.c (.bool false)), none, []⟩] [0, 1])
  (.seq (.reg false [⟨(some 5), .mov (.t 0), none, []⟩,
    ⟨(some 6), .nilck (.t 5), none, []⟩,
    ⟨(some 7), .faddr 0 (.t 6), none, []⟩,
    ⟨(some 8), .faddr 0 (.t 7), none, []⟩,
    ⟨(some 9), .load none (.t 8), none, []⟩,
    ⟨(some 10), .mov (.t 1), none, []⟩,
    ⟨(some 11), .iaddr 3 (.t 9) (.t 10), none, []⟩,
    ⟨(some 12), .load (some 3) (.t 11), none, []⟩,
    ⟨(some 13), .call (.c (.func (.func 16) [] [])) [(.t 12)], none, []⟩,
    ⟨(some 4), .mov (.t 13), none, []⟩] [4])
  .ret))
def f103 : VFn := ⟨2, 14, f103_c, [.t 4], true, []⟩
/- caliper/plain.of -/
def f104_c : VCode :=
  (.seq (.reg false [⟨(some 2), .alloc true [(.int .i64 0), (.int .i64 0), (.int .i64 0), (.bool false), (.str ⟨#[]⟩), (.int .i64 0), (.sl 0 [] true), (.sl 0 [] true), (.sl 0 [] true), (.sl 0 [] true)], none, []⟩,
    ⟨(some 3), .mov (.c (.int .i64 0)), none, []⟩] [0, 2])
  (.seq (.seq (.reg false [⟨(some 4), .mov (.t 0), none, []⟩,
    ⟨(some 5), .bin .lss (.t 4) (.c (.int .i64 0)), none, []⟩] [0, 2, 5])
  (.cond (.t 5) (.seq (.reg false [⟨(some 6), .build [(.int .i64 0), (.int .i64 0), (.int .i64 0), (.bool false), (.str ⟨#[]⟩), (.int .i64 0), (.sl 0 [] true), (.sl 0 [] true), (.sl 0 [] true), (.sl 0 [] true)] [], none, []⟩,
    ⟨none, .store true 10 (.t 2) (.t 6), none, []⟩,
    ⟨(some 3), .mov (.c (.int .i64 1)), none, []⟩] [2, 3])
  .ret) .skip))
  (.seq (.reg false [⟨(some 7), .mov (.t 0), none, []⟩,
    ⟨(some 8), .buildRow false 1 1 [(.int .i64 0)] [(0, (.t 7))], none, []⟩,
    ⟨(some 9), .build [(.int .i64 0), (.int .i64 0), (.int .i64 0), (.bool false), (.str ⟨#[]⟩), (.int .i64 0), (.sl 0 [] true), (.sl 0 [] true), (.sl 0 [] true), (.sl 0 [] true)] [(0, 1, (.c (.int .i64 19))), (9, 1, (.t 8))], none, []⟩,
    ⟨none, .store true 10 (.t 2) (.t 9), none, []⟩,
    ⟨(some 3), .mov (.c (.int .i64 0)), none, []⟩] [2, 3])
  .ret)))
def f104 : VFn := ⟨1, 10, f104_c, [.c 2 (some 10), .t 3], true, []⟩
/- caliper/caliperref16.counted -/
/- caliper/caliperref03.digit -/
/- caliper/caliperref06.right -/
/- caliper/caliperref01.Points -/
/- (*caliper/caliperref09.P).alt -/
/- caliper/caliperref01.step -/
/- slices.Index[[]string,string] -/
def f111_l0 : VCode :=
  (.seq (.reg false [⟨(some 9), .bin .lss (.t 8) (.t 7), none, []⟩] [0, 1, 7, 8, 9])
  (.seq (.cond (.t 9) .skip (.exit 0))
  (.seq (.block 1 (.seq (.reg false [⟨(some 10), .mov (.t 8), none, []⟩,
    ⟨(some 5), .mov (.t 10), none, []⟩] [0, 1, 5, 7, 8])
  (.seq (.reg false [⟨(some 11), .mov (.t 1), none, []⟩,
    ⟨(some 12), .mov (.t 0), none, []⟩,
    ⟨(some 13), .mov (.t 5), none, []⟩,
    ⟨(some 14), .iaddr 1 (.t 12) (.t 13), none, []⟩,
    ⟨(some 15), .load none (.t 14), none, []⟩,
    ⟨(some 16), .bin .eql (.t 11) (.t 15), none, []⟩] [0, 1, 5, 7, 8, 16])
  (.cond (.t 16) (.seq (.reg false [⟨(some 17), .mov (.t 5), none, []⟩,
    ⟨(some 4), .mov (.t 17), none, []⟩] [4])
  .ret) .skip))))
  (.reg false [⟨(some 18), .bin .add (.t 8) (.c (.int .i64 1)), none, []⟩,
    ⟨(some 8), .mov (.t 18), none, []⟩] [0, 1, 7, 8]))))
def f111_c : VCode :=
  (.seq (.reg false [⟨(some 4), .mov (.c (.int .i64 0)), none, []⟩] [0, 1])
  (.seq (.seq (.reg false [⟨(some 6), .mov (.t 0), none, []⟩,
    ⟨(some 7), .len (.t 6), none, []⟩,
    ⟨(some 8), .mov (.c (.int .i64 0)), none, []⟩] [0, 1, 7, 8])
  (.block 0 (.loop [0, 1, 7, 8] f111_l0)))
  (.seq (.reg false [⟨(some 4), .mov (.c (.int .i64 (-1))), none, []⟩] [4])
  .ret)))
def f111 : VFn := ⟨2, 19, f111_c, [.t 4], true, []⟩
/- strings.trimLeftByte -/
/- strings.trimRightByte -/
/- strings.makeASCIISet -/
/- strings.trimLeftASCII -/
/- strings.trimRightASCII -/
/- strings.trimLeftUnicode -/
/- strings.trimRightUnicode -/
/- slices.IndexFunc[[]caliper/api.Value,caliper/api.Value] -/
def f119_l0 : VCode :=
  (.seq (.reg false [⟨(some 9), .bin .lss (.t 8) (.t 7), none, []⟩] [0, 1, 7, 8, 9])
  (.seq (.cond (.t 9) .skip (.exit 0))
  (.seq (.block 1 (.seq (.reg false [⟨(some 10), .mov (.t 8), none, []⟩,
    ⟨(some 5), .mov (.t 10), none, []⟩] [0, 1, 5, 7, 8])
  (.seq (.reg false [⟨(some 11), .mov (.t 1), none, []⟩,
    ⟨(some 12), .mov (.t 0), none, []⟩,
    ⟨(some 13), .mov (.t 5), none, []⟩,
    ⟨(some 14), .iaddr 7 (.t 12) (.t 13), none, []⟩,
    ⟨(some 15), .load (some 7) (.t 14), none, []⟩,
    ⟨(some 16), .call (.t 11) [(.t 15)], none, []⟩] [0, 1, 5, 7, 8, 16])
  (.cond (.t 16) (.seq (.reg false [⟨(some 17), .mov (.t 5), none, []⟩,
    ⟨(some 4), .mov (.t 17), none, []⟩] [4])
  .ret) .skip))))
  (.reg false [⟨(some 18), .bin .add (.t 8) (.c (.int .i64 1)), none, []⟩,
    ⟨(some 8), .mov (.t 18), none, []⟩] [0, 1, 7, 8]))))
def f119_c : VCode :=
  (.seq (.reg false [⟨(some 4), .mov (.c (.int .i64 0)), none, []⟩] [0, 1])
  (.seq (.seq (.reg false [⟨(some 6), .mov (.t 0), none, []⟩,
    ⟨(some 7), .len (.t 6), none, []⟩,
    ⟨(some 8), .mov (.c (.int .i64 0)), none, []⟩] [0, 1, 7, 8])
  (.block 0 (.loop [0, 1, 7, 8] f119_l0)))
  (.seq (.reg false [⟨(some 4), .mov (.c (.int .i64 (-1))), none, []⟩] [4])
  .ret)))
def f119 : VFn := ⟨2, 19, f119_c, [.t 4], true, []⟩
/- caliper/value.bare -/
/- caliper/value.valid -/
/- caliper/value.fits$1 -/
/- slices.IndexFunc[[]string,string] -/
def f123_l0 : VCode :=
  (.seq (.reg false [⟨(some 9), .bin .lss (.t 8) (.t 7), none, []⟩] [0, 1, 7, 8, 9])
  (.seq (.cond (.t 9) .skip (.exit 0))
  (.seq (.block 1 (.seq (.reg false [⟨(some 10), .mov (.t 8), none, []⟩,
    ⟨(some 5), .mov (.t 10), none, []⟩] [0, 1, 5, 7, 8])
  (.seq (.reg false [⟨(some 11), .mov (.t 1), none, []⟩,
    ⟨(some 12), .mov (.t 0), none, []⟩,
    ⟨(some 13), .mov (.t 5), none, []⟩,
    ⟨(some 14), .iaddr 1 (.t 12) (.t 13), none, []⟩,
    ⟨(some 15), .load none (.t 14), none, []⟩,
    ⟨(some 16), .call (.t 11) [(.t 15)], none, []⟩] [0, 1, 5, 7, 8, 16])
  (.cond (.t 16) (.seq (.reg false [⟨(some 17), .mov (.t 5), none, []⟩,
    ⟨(some 4), .mov (.t 17), none, []⟩] [4])
  .ret) .skip))))
  (.reg false [⟨(some 18), .bin .add (.t 8) (.c (.int .i64 1)), none, []⟩,
    ⟨(some 8), .mov (.t 18), none, []⟩] [0, 1, 7, 8]))))
def f123_c : VCode :=
  (.seq (.reg false [⟨(some 4), .mov (.c (.int .i64 0)), none, []⟩] [0, 1])
  (.seq (.seq (.reg false [⟨(some 6), .mov (.t 0), none, []⟩,
    ⟨(some 7), .len (.t 6), none, []⟩,
    ⟨(some 8), .mov (.c (.int .i64 0)), none, []⟩] [0, 1, 7, 8])
  (.block 0 (.loop [0, 1, 7, 8] f123_l0)))
  (.seq (.reg false [⟨(some 4), .mov (.c (.int .i64 (-1))), none, []⟩] [4])
  .ret)))
def f123 : VFn := ⟨2, 19, f123_c, [.t 4], true, []⟩
/- caliper/utf.Points -/
/- caliper/rx.Parse$1 -/
/- (*caliper/rx.reader).pattern -/
/- caliper/rx.must -/
/- slices.IndexFunc[[]int,int] -/
def f128_l0 : VCode :=
  (.seq (.reg false [⟨(some 9), .bin .lss (.t 8) (.t 7), none, []⟩] [0, 1, 7, 8, 9])
  (.seq (.cond (.t 9) .skip (.exit 0))
  (.seq (.block 1 (.seq (.reg false [⟨(some 10), .mov (.t 8), none, []⟩,
    ⟨(some 5), .mov (.t 10), none, []⟩] [0, 1, 5, 7, 8])
  (.seq (.reg false [⟨(some 11), .mov (.t 1), none, []⟩,
    ⟨(some 12), .mov (.t 0), none, []⟩,
    ⟨(some 13), .mov (.t 5), none, []⟩,
    ⟨(some 14), .iaddr 1 (.t 12) (.t 13), none, []⟩,
    ⟨(some 15), .load none (.t 14), none, []⟩,
    ⟨(some 16), .call (.t 11) [(.t 15)], none, []⟩] [0, 1, 5, 7, 8, 16])
  (.cond (.t 16) (.seq (.reg false [⟨(some 17), .mov (.t 5), none, []⟩,
    ⟨(some 4), .mov (.t 17), none, []⟩] [4])
  .ret) .skip))))
  (.reg false [⟨(some 18), .bin .add (.t 8) (.c (.int .i64 1)), none, []⟩,
    ⟨(some 8), .mov (.t 18), none, []⟩] [0, 1, 7, 8]))))
def f128_c : VCode :=
  (.seq (.reg false [⟨(some 4), .mov (.c (.int .i64 0)), none, []⟩] [0, 1])
  (.seq (.seq (.reg false [⟨(some 6), .mov (.t 0), none, []⟩,
    ⟨(some 7), .len (.t 6), none, []⟩,
    ⟨(some 8), .mov (.c (.int .i64 0)), none, []⟩] [0, 1, 7, 8])
  (.block 0 (.loop [0, 1, 7, 8] f128_l0)))
  (.seq (.reg false [⟨(some 4), .mov (.c (.int .i64 (-1))), none, []⟩] [4])
  .ret)))
def f128 : VFn := ⟨2, 19, f128_c, [.t 4], true, []⟩
/- slices.DeleteFunc[[]int,int] -/
def f129_l0 : VCode :=
  (.seq (.seq (.reg false [⟨(some 16), .mov (.t 6), none, []⟩,
    ⟨(some 17), .mov (.t 0), none, []⟩,
    ⟨(some 18), .len (.t 17), none, []⟩,
    ⟨(some 19), .bin .lss (.t 16) (.t 18), none, []⟩] [0, 1, 5, 6, 19])
  (.cond (.t 19) .skip (.exit 0)))
  (.seq (.block 1 (.seq (.reg false [⟨(some 22), .mov (.t 0), none, []⟩,
    ⟨(some 23), .mov (.t 6), none, []⟩,
    ⟨(some 24), .iaddr 1 (.t 22) (.t 23), none, []⟩,
    ⟨(some 25), .load none (.t 24), none, []⟩,
    ⟨(some 7), .mov (.t 25), none, []⟩] [0, 1, 5, 6, 7])
  (.seq (.reg false [⟨(some 26), .mov (.t 1), none, []⟩,
    ⟨(some 27), .mov (.t 7), none, []⟩,
    ⟨(some 28), .call (.t 26) [(.t 27)], none, []⟩,
    ⟨(some 29), .un .not (.t 28), none, []⟩] [0, 1, 5, 6, 7, 29])
  (.cond (.t 29) (.seq (.reg false [⟨(some 30), .mov (.t 0), none, []⟩,
    ⟨(some 31), .mov (.t 5), none, []⟩,
    ⟨(some 32), .mov (.t 7), none, []⟩,
    ⟨(some 33), .iaddr 1 (.t 30) (.t 31), none, []⟩,
    ⟨none, .store false 1 (.t 33) (.t 32), none, []⟩] [0, 1, 5, 6])
  (.reg false [⟨(some 34), .mov (.t 5), none, []⟩,
    ⟨(some 35), .bin .add (.t 34) (.c (.int .i64 1)), none, []⟩,
    ⟨(some 5), .mov (.t 35), none, []⟩] [0, 1, 5, 6])) .skip))))
  (.reg false [⟨(some 20), .mov (.t 6), none, []⟩,
    ⟨(some 21), .bin .add (.t 20) (.c (.int .i64 1)), none, []⟩,
    ⟨(some 6), .mov (.t 21), none, []⟩] [0, 1, 5, 6])))
def f129_c : VCode :=
  (.seq (.reg false [⟨(some 4), .nilrow 1, none, []⟩] [0, 1])
  (.seq (.reg false [⟨(some 8), .mov (.t 0), none, []⟩,
    ⟨(some 9), .mov (.t 1), none, []⟩,
    ⟨(some 10), .call (.c (.func (.func 128) [] [])) [(.t 8), (.t 9)], none, []⟩,
    ⟨(some 5), .mov (.t 10), none, []⟩] [0, 1, 5])
  (.seq (.seq (.reg false [⟨(some 11), .mov (.t 5), none, []⟩,
    ⟨(some 12), .bin .eql (.t 11) (.c (.int .i64 (-1))), none, []⟩] [0, 1, 5, 12])
  (.cond (.t 12) (.seq (.reg false [⟨(some 13), .mov (.t 0), none, []⟩,
    ⟨(some 4), .mov (.t 13), none, []⟩] [4])
  .ret) .skip))
  (.seq (.seq (.reg false [⟨(some 14), .mov (.t 5), none, []⟩,
    ⟨(some 15), .bin .add (.t 14) (.c (.int .i64 1)), none, []⟩,
    ⟨(some 6), .mov (.t 15), none, []⟩] [0, 1, 5, 6])
  (.block 0 (.loop [0, 1, 5, 6] f129_l0)))
  (.seq .stuck
  (.seq (.reg false [⟨(some 39), .mov (.t 0), none, []⟩,
    ⟨(some 40), .mov (.t 5), none, []⟩,
    ⟨(some 41), .sl 1 (.t 39) none (some (.t 40)) none, none, []⟩,
    ⟨(some 4), .mov (.t 41), none, []⟩] [4])
  .ret))))))
def f129 : VFn := ⟨2, 42, f129_c, [.t 4], true, []⟩
/- slices.Clone[[]int,int] -/
def f130_c : VCode :=
  (.seq (.reg false [⟨(some 2), .nilrow 1, none, []⟩] [0])
  (.seq (.seq (.reg false [⟨(some 3), .mov (.t 0), none, []⟩,
    ⟨(some 4), .isnil .slice false (.t 3), none, []⟩] [0, 4])
  (.cond (.t 4) (.seq (.reg false [⟨(some 2), .nilrow 1, none, []⟩] [2])
  .ret) .skip))
  (.seq (.reg false [⟨(some 5), .buildRow false 1 0 [(.int .i64 0)] [], none, []⟩,
    ⟨(some 6), .mov (.t 0), none, []⟩,
    ⟨(some 7), .append 1 8 (.t 5) (.t 6), none, []⟩,
    ⟨(some 2), .mov (.t 7), none, []⟩] [2])
  .ret)))
def f130 : VFn := ⟨1, 8, f130_c, [.t 2], true, []⟩
/- caliper/caliperref06.valid -/
/- (*caliper/caliperref09.P).row -/
/- (*caliper/caliperref09.P).take -/
/- caliper/caliperref01.length -/
/- caliper/caliperref01.second -/
/- (*strings.asciiSet).contains -/
/- unicode/utf8.DecodeRuneInString -/
/- strings.ContainsRune -/
/- unicode/utf8.DecodeLastRuneInString -/
/- (*caliper/rx.reader).row -/
/- (*caliper/rx.reader).take -/
/- caliper/rx.several -/
/- (*caliper/caliperref09.P).peek -/
/- (*caliper/caliperref09.P).term -/
/- unicode/utf8.decodeRuneInStringSlow -/
/- unicode/utf8.RuneStart -/
/- caliper/rx.among -/
/- (*caliper/rx.reader).peek -/
/- (*caliper/rx.reader).term -/
/- caliper/caliperref09.in -/
/- (*caliper/caliperref09.P).count -/
/- (*caliper/caliperref09.P).atom -/
/- strings.IndexByte -/
/- unicode/utf8.ValidRune -/
/- internal/bytealg.Cutover -/
/- (*caliper/rx.reader).atom -/
/- (*caliper/rx.reader).count -/
/- (*caliper/caliperref09.P).number -/
/- (*caliper/caliperref09.P).fail -/
/- caliper/caliperref09.set -/
/- caliper/caliperref09.Turn -/
/- (*caliper/caliperref09.P).class -/
/- (*caliper/caliperref09.P).escape -/
/- caliper/caliperref09.one -/
/- internal/stringslite.IndexByte -/
/- caliper/rx.set -/
/- caliper/rx.Turn -/
/- caliper/rx.of -/
/- (*caliper/rx.reader).class -/
/- (*caliper/rx.reader).escape -/
/- (*caliper/rx.reader).next -/
/- (*caliper/rx.reader).number -/
/- caliper/caliperref09.Merge -/
/- (*caliper/caliperref09.P).mark -/
/- caliper/caliperref09.kinds -/
/- (*caliper/caliperref09.P).hex -/
/- (*caliper/caliperref09.P).unicode -/
/- caliper/rx.Merge -/
/- (*caliper/rx.reader).mark -/
/- caliper/rx.kinds -/
/- (*caliper/rx.reader).hex -/
/- (*caliper/rx.reader).unicode -/
/- caliper/caliperref04.Hex -/
/- caliper/caliperref01.Scalar -/
/- caliper/caliperref01.Pair -/
/- slices.SortFunc[[]caliper/api.Range,caliper/api.Range] -/
/- caliper/rx.Merge$1 -/
/- cmp.Compare[int] -/
/- caliper/utf.Put -/
/- caliper/utf.Pair -/
/- caliper/caliperref04.digit -/
/- slices.pdqsortCmpFunc[caliper/api.Range] -/
/- math/bits.Len -/
/- cmp.isNaN[int] -/
/- caliper/utf.scalar -/
/- caliper/utf.joined -/
/- caliper/utf.tail -/
/- slices.insertionSortCmpFunc[caliper/api.Range] -/
/- slices.heapSortCmpFunc[caliper/api.Range] -/
/- slices.breakPatternsCmpFunc[caliper/api.Range] -/
/- slices.choosePivotCmpFunc[caliper/api.Range] -/
/- slices.reverseRangeCmpFunc[caliper/api.Range] -/
/- slices.partialInsertionSortCmpFunc[caliper/api.Range] -/
/- slices.partitionEqualCmpFunc[caliper/api.Range] -/
/- slices.partitionCmpFunc[caliper/api.Range] -/
/- math/bits.Len32 -/
/- math/bits.Len64 -/
/- slices.siftDownCmpFunc[caliper/api.Range] -/
/- slices.nextPowerOfTwo -/
/- (*slices.xorshift).Next -/
/- slices.medianAdjacentCmpFunc[caliper/api.Range] -/
/- slices.medianCmpFunc[caliper/api.Range] -/
/- slices.order2CmpFunc[caliper/api.Range] -/
/- gosem.cut.vars -/
def tab : FuncId → Option VFn := fun f => match f with
  | 4 => some f4
  | 8 => some f8
  | 10 => some f10
  | 13 => some f13
  | 15 => some f15
  | 16 => some f16
  | 17 => some f17
  | 18 => some f18
  | 20 => some f20
  | 24 => some f24
  | 25 => some f25
  | 26 => some f26
  | 27 => some f27
  | 28 => some f28
  | 29 => some f29
  | 30 => some f30
  | 31 => some f31
  | 32 => some f32
  | 34 => some f34
  | 35 => some f35
  | 36 => some f36
  | 46 => some f46
  | 47 => some f47
  | 48 => some f48
  | 49 => some f49
  | 50 => some f50
  | 51 => some f51
  | 52 => some f52
  | 53 => some f53
  | 54 => some f54
  | 55 => some f55
  | 56 => some f56
  | 57 => some f57
  | 58 => some f58
  | 59 => some f59
  | 60 => some f60
  | 61 => some f61
  | 62 => some f62
  | 63 => some f63
  | 64 => some f64
  | 65 => some f65
  | 66 => some f66
  | 67 => some f67
  | 68 => some f68
  | 69 => some f69
  | 70 => some f70
  | 71 => some f71
  | 72 => some f72
  | 73 => some f73
  | 74 => some f74
  | 86 => some f86
  | 87 => some f87
  | 88 => some f88
  | 90 => some f90
  | 91 => some f91
  | 93 => some f93
  | 94 => some f94
  | 97 => some f97
  | 98 => some f98
  | 99 => some f99
  | 100 => some f100
  | 101 => some f101
  | 102 => some f102
  | 103 => some f103
  | 104 => some f104
  | 111 => some f111
  | 119 => some f119
  | 123 => some f123
  | 128 => some f128
  | 129 => some f129
  | 130 => some f130
  | _ => none
theorem f4_ok : lowAt Tryz.prog [] true [] 4 = some f4 := by kernel_rfl
theorem f8_ok : lowAt Tryz.prog [] true [] 8 = some f8 := by kernel_rfl
theorem f10_ok : lowAt Tryz.prog [] true [] 10 = some f10 := by kernel_rfl
theorem f13_ok : lowAt Tryz.prog [] true [] 13 = some f13 := by kernel_rfl
theorem f15_ok : lowAt Tryz.prog [] true [] 15 = some f15 := by kernel_rfl
theorem f16_ok : lowAt Tryz.prog [] true [] 16 = some f16 := by kernel_rfl
theorem f17_ok : lowAt Tryz.prog [] true [] 17 = some f17 := by kernel_rfl
theorem f18_ok : lowAt Tryz.prog [] true [] 18 = some f18 := by kernel_rfl
theorem f20_ok : lowAt Tryz.prog [] true [] 20 = some f20 := by kernel_rfl
theorem f24_ok : lowAt Tryz.prog [] true [] 24 = some f24 := by kernel_rfl
theorem f25_ok : lowAt Tryz.prog [] true [] 25 = some f25 := by kernel_rfl
theorem f26_ok : lowAt Tryz.prog [] true [] 26 = some f26 := by kernel_rfl
theorem f27_ok : lowAt Tryz.prog [] true [] 27 = some f27 := by kernel_rfl
theorem f28_ok : lowAt Tryz.prog [] true [] 28 = some f28 := by kernel_rfl
theorem f29_ok : lowAt Tryz.prog [] true [] 29 = some f29 := by kernel_rfl
theorem f30_ok : lowAt Tryz.prog [] true [] 30 = some f30 := by kernel_rfl
theorem f31_ok : lowAt Tryz.prog [] true [] 31 = some f31 := by kernel_rfl
theorem f32_ok : lowAt Tryz.prog [] true [] 32 = some f32 := by kernel_rfl
theorem f34_ok : lowAt Tryz.prog [] false [] 34 = some f34 := by kernel_rfl
theorem f35_ok : lowAt Tryz.prog [] true [] 35 = some f35 := by kernel_rfl
theorem f36_ok : lowAt Tryz.prog [] true [] 36 = some f36 := by kernel_rfl
theorem f46_ok : lowAt Tryz.prog [] true [] 46 = some f46 := by kernel_rfl
theorem f47_ok : lowAt Tryz.prog [] true [] 47 = some f47 := by kernel_rfl
theorem f48_ok : lowAt Tryz.prog [] true [] 48 = some f48 := by kernel_rfl
theorem f49_ok : lowAt Tryz.prog [] true [] 49 = some f49 := by kernel_rfl
theorem f50_ok : lowAt Tryz.prog [] true [] 50 = some f50 := by kernel_rfl
theorem f51_ok : lowAt Tryz.prog [] true [] 51 = some f51 := by kernel_rfl
theorem f52_ok : lowAt Tryz.prog [] true [] 52 = some f52 := by kernel_rfl
theorem f53_ok : lowAt Tryz.prog [] true [] 53 = some f53 := by kernel_rfl
theorem f54_ok : lowAt Tryz.prog [] true [] 54 = some f54 := by kernel_rfl
theorem f55_ok : lowAt Tryz.prog [] true [] 55 = some f55 := by kernel_rfl
theorem f56_ok : lowAt Tryz.prog [] true [] 56 = some f56 := by kernel_rfl
theorem f57_ok : lowAt Tryz.prog [] true [] 57 = some f57 := by kernel_rfl
theorem f58_ok : lowAt Tryz.prog [] true [] 58 = some f58 := by kernel_rfl
theorem f59_ok : lowAt Tryz.prog [] true [] 59 = some f59 := by kernel_rfl
theorem f60_ok : lowAt Tryz.prog [] true [] 60 = some f60 := by kernel_rfl
theorem f61_ok : lowAt Tryz.prog [] true [] 61 = some f61 := by kernel_rfl
theorem f62_ok : lowAt Tryz.prog [] true [] 62 = some f62 := by kernel_rfl
theorem f63_ok : lowAt Tryz.prog [] true [] 63 = some f63 := by kernel_rfl
theorem f64_ok : lowAt Tryz.prog [] true [] 64 = some f64 := by kernel_rfl
theorem f65_ok : lowAt Tryz.prog [] true [] 65 = some f65 := by kernel_rfl
theorem f66_ok : lowAt Tryz.prog [] true [] 66 = some f66 := by kernel_rfl
theorem f67_ok : lowAt Tryz.prog [] true [] 67 = some f67 := by kernel_rfl
theorem f68_ok : lowAt Tryz.prog [] true [] 68 = some f68 := by kernel_rfl
theorem f69_ok : lowAt Tryz.prog [] true [] 69 = some f69 := by kernel_rfl
theorem f70_ok : lowAt Tryz.prog [] true [] 70 = some f70 := by kernel_rfl
theorem f71_ok : lowAt Tryz.prog [] true [] 71 = some f71 := by kernel_rfl
theorem f72_ok : lowAt Tryz.prog [] true [] 72 = some f72 := by kernel_rfl
theorem f73_ok : lowAt Tryz.prog [] true [] 73 = some f73 := by kernel_rfl
theorem f74_ok : lowAt Tryz.prog [] true [] 74 = some f74 := by kernel_rfl
theorem f86_ok : lowAt Tryz.prog [] true [] 86 = some f86 := by kernel_rfl
theorem f87_ok : lowAt Tryz.prog [] true [] 87 = some f87 := by kernel_rfl
theorem f88_ok : lowAt Tryz.prog [] true [] 88 = some f88 := by kernel_rfl
theorem f90_ok : lowAt Tryz.prog [] true [] 90 = some f90 := by kernel_rfl
theorem f91_ok : lowAt Tryz.prog [] true [] 91 = some f91 := by kernel_rfl
theorem f93_ok : lowAt Tryz.prog [] true [] 93 = some f93 := by kernel_rfl
theorem f94_ok : lowAt Tryz.prog [] true [] 94 = some f94 := by kernel_rfl
theorem f97_ok : lowAt Tryz.prog [] true [] 97 = some f97 := by kernel_rfl
theorem f98_ok : lowAt Tryz.prog [] true [] 98 = some f98 := by kernel_rfl
theorem f99_ok : lowAt Tryz.prog [] true [] 99 = some f99 := by kernel_rfl
theorem f100_ok : lowAt Tryz.prog [] true [] 100 = some f100 := by kernel_rfl
theorem f101_ok : lowAt Tryz.prog [] true [] 101 = some f101 := by kernel_rfl
theorem f102_ok : lowAt Tryz.prog [] true [] 102 = some f102 := by kernel_rfl
theorem f103_ok : lowAt Tryz.prog [] true [] 103 = some f103 := by kernel_rfl
theorem f104_ok : lowAt Tryz.prog [] true [] 104 = some f104 := by kernel_rfl
theorem f111_ok : lowAt Tryz.prog [] true [] 111 = some f111 := by kernel_rfl
theorem f119_ok : lowAt Tryz.prog [] true [] 119 = some f119 := by kernel_rfl
theorem f123_ok : lowAt Tryz.prog [] true [] 123 = some f123 := by kernel_rfl
theorem f128_ok : lowAt Tryz.prog [] true [] 128 = some f128 := by kernel_rfl
theorem f129_ok : lowAt Tryz.prog [] true [] 129 = some f129 := by kernel_rfl
theorem f130_ok : lowAt Tryz.prog [] true [] 130 = some f130 := by kernel_rfl
theorem tab_ok : TableOk Tryz.prog tab := by
  intro f vf h
  unfold tab at h
  split at h
  · cases h; exact lowAt_ok f4_ok
  · cases h; exact lowAt_ok f8_ok
  · cases h; exact lowAt_ok f10_ok
  · cases h; exact lowAt_ok f13_ok
  · cases h; exact lowAt_ok f15_ok
  · cases h; exact lowAt_ok f16_ok
  · cases h; exact lowAt_ok f17_ok
  · cases h; exact lowAt_ok f18_ok
  · cases h; exact lowAt_ok f20_ok
  · cases h; exact lowAt_ok f24_ok
  · cases h; exact lowAt_ok f25_ok
  · cases h; exact lowAt_ok f26_ok
  · cases h; exact lowAt_ok f27_ok
  · cases h; exact lowAt_ok f28_ok
  · cases h; exact lowAt_ok f29_ok
  · cases h; exact lowAt_ok f30_ok
  · cases h; exact lowAt_ok f31_ok
  · cases h; exact lowAt_ok f32_ok
  · cases h; exact lowAt_ok f34_ok
  · cases h; exact lowAt_ok f35_ok
  · cases h; exact lowAt_ok f36_ok
  · cases h; exact lowAt_ok f46_ok
  · cases h; exact lowAt_ok f47_ok
  · cases h; exact lowAt_ok f48_ok
  · cases h; exact lowAt_ok f49_ok
  · cases h; exact lowAt_ok f50_ok
  · cases h; exact lowAt_ok f51_ok
  · cases h; exact lowAt_ok f52_ok
  · cases h; exact lowAt_ok f53_ok
  · cases h; exact lowAt_ok f54_ok
  · cases h; exact lowAt_ok f55_ok
  · cases h; exact lowAt_ok f56_ok
  · cases h; exact lowAt_ok f57_ok
  · cases h; exact lowAt_ok f58_ok
  · cases h; exact lowAt_ok f59_ok
  · cases h; exact lowAt_ok f60_ok
  · cases h; exact lowAt_ok f61_ok
  · cases h; exact lowAt_ok f62_ok
  · cases h; exact lowAt_ok f63_ok
  · cases h; exact lowAt_ok f64_ok
  · cases h; exact lowAt_ok f65_ok
  · cases h; exact lowAt_ok f66_ok
  · cases h; exact lowAt_ok f67_ok
  · cases h; exact lowAt_ok f68_ok
  · cases h; exact lowAt_ok f69_ok
  · cases h; exact lowAt_ok f70_ok
  · cases h; exact lowAt_ok f71_ok
  · cases h; exact lowAt_ok f72_ok
  · cases h; exact lowAt_ok f73_ok
  · cases h; exact lowAt_ok f74_ok
  · cases h; exact lowAt_ok f86_ok
  · cases h; exact lowAt_ok f87_ok
  · cases h; exact lowAt_ok f88_ok
  · cases h; exact lowAt_ok f90_ok
  · cases h; exact lowAt_ok f91_ok
  · cases h; exact lowAt_ok f93_ok
  · cases h; exact lowAt_ok f94_ok
  · cases h; exact lowAt_ok f97_ok
  · cases h; exact lowAt_ok f98_ok
  · cases h; exact lowAt_ok f99_ok
  · cases h; exact lowAt_ok f100_ok
  · cases h; exact lowAt_ok f101_ok
  · cases h; exact lowAt_ok f102_ok
  · cases h; exact lowAt_ok f103_ok
  · cases h; exact lowAt_ok f104_ok
  · cases h; exact lowAt_ok f111_ok
  · cases h; exact lowAt_ok f119_ok
  · cases h; exact lowAt_ok f123_ok
  · cases h; exact lowAt_ok f128_ok
  · cases h; exact lowAt_ok f129_ok
  · cases h; exact lowAt_ok f130_ok
  · cases h
theorem d95_ok : lowDAt Tryz.prog 95 125 = some d95 := by kernel_rfl
end Go.Proofs.YtpfbeeikgbijoaaGreatDoor.V
