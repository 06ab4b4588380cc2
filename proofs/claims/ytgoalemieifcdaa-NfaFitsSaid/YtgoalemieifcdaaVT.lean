/- The functions of this seat, as the evaluator has them (printed by wip/v/VG.lean). -/
import Derived.Test.YtgoalemieifcdaaChecked
import Derived.Test.YtgoalemieifcdaaV26
import Derived.Test.YtgoalemieifcdaaV35
namespace Go.Proofs.Ytgoalemieifcdaa.V
open Go
set_option linter.unusedVariables false
set_option linter.unusedSimpArgs false
set_option linter.unusedSectionVars false
/- not lowered: 0 main.main: no body -/
/- not lowered: 1 gosem.cut: no body -/
/- gosem.cut.init -/
def f2_c : VCode :=
  (.reg false [⟨(some 0), .call (.c (.func (.func 1) [] [])) [], none, []⟩] [])
def f2 : VFn := ⟨0, 1, f2_c, [], true, []⟩
/- caliper/caliperlaw10.NfaChecks -/
def f3_c : VCode :=
  (.seq (.reg false [⟨(some 2), .mov (.c (.bool false)), none, []⟩] [0])
  (.seq (.reg false [⟨(some 3), .mov (.t 0), none, []⟩,
    ⟨(some 4), .call (.c (.func (.func 7) [] [])) [(.t 3)], none, []⟩,
    ⟨(some 5), .mov (.t 0), none, []⟩,
    ⟨(some 6), .call (.c (.func (.func 8) [] [])) [(.t 5)], none, []⟩,
    ⟨(some 7), .bin .eql (.t 4) (.t 6), none, []⟩,
    ⟨(some 8), .mov (.t 7), none, []⟩,
    ⟨(some 9), .call (.c (.func (.func 9) [] [])) [], (some (8, true)), []⟩,
    ⟨(some 10), .pick (.t 8) (.t 9) (.c (.bool false)), none, []⟩,
    ⟨(some 2), .mov (.t 10), none, []⟩] [2])
  .ret))
def f3 : VFn := ⟨1, 11, f3_c, [.t 2], true, []⟩
/- caliper/caliperlaw10.NfaFits -/
def f4_l0 : VCode :=
  (.seq (.seq (.reg false [⟨(some 67), .mov (.t 9), none, []⟩,
    ⟨(some 68), .mov (.t 7), none, []⟩,
    ⟨(some 69), .bin .lss (.t 67) (.t 68), none, []⟩] [5, 7, 9, 69])
  (.cond (.t 69) .skip (.exit 0)))
  (.seq (.block 1 (.seq (.reg false [⟨(some 72), .mov (.t 5), none, []⟩,
    ⟨(some 73), .mov (.t 9), none, []⟩,
    ⟨(some 74), .iaddr 4 (.t 72) (.t 73), none, []⟩,
    ⟨(some 75), .faddr 0 (.t 74), none, []⟩,
    ⟨(some 76), .load none (.t 75), none, []⟩,
    ⟨(some 77), .bin .eql (.t 76) (.c (.int .i64 7)), none, []⟩,
    ⟨(some 78), .mov (.t 9), none, []⟩,
    ⟨(some 79), .mov (.t 7), none, []⟩,
    ⟨(some 80), .bin .sub (.t 79) (.c (.int .i64 1)), none, []⟩,
    ⟨(some 81), .bin .eql (.t 78) (.t 80), none, []⟩,
    ⟨(some 82), .eqb true (.t 77) (.t 81), none, []⟩] [5, 7, 9, 82])
  (.cond (.t 82) (.seq (.reg false [⟨(some 4), .mov (.c (.bool false)), none, []⟩] [4])
  .ret) .skip)))
  (.reg false [⟨(some 70), .mov (.t 9), none, []⟩,
    ⟨(some 71), .bin .add (.t 70) (.c (.int .i64 1)), none, []⟩,
    ⟨(some 9), .mov (.t 71), none, []⟩] [5, 7, 9])))
def f4_c : VCode :=
  (.seq (.reg false [⟨(some 2), .box true 6 (.t 0), none, []⟩,
    ⟨(some 4), .mov (.c (.bool false)), none, []⟩] [1, 2])
  (.seq (.reg false [⟨(some 11), .load (some 6) (.t 2), none, []⟩,
    ⟨(some 12), .mov (.t 1), none, []⟩,
    ⟨(some 13), .call (.c (.func (.func 10) [] [])) [(.t 11), (.t 12)], none, []⟩,
    ⟨(some 10), .mov (.t 13), none, []⟩,
    ⟨(some 14), .extract (.t 10) 0, none, []⟩,
    ⟨(some 15), .extract (.t 10) 1, none, []⟩,
    ⟨(some 5), .mov (.t 14), none, []⟩,
    ⟨(some 6), .mov (.t 15), none, []⟩] [1, 2, 5, 6])
  (.seq (.reg false [⟨(some 17), .load (some 6) (.t 2), none, []⟩,
    ⟨(some 18), .call (.c (.func (.func 11) [] [])) [(.t 17), (.c (.int .i64 65536))], none, []⟩,
    ⟨(some 16), .mov (.t 18), none, []⟩,
    ⟨(some 19), .extract (.t 16) 0, none, []⟩,
    ⟨(some 20), .extract (.t 16) 1, none, []⟩,
    ⟨(some 7), .mov (.t 19), none, []⟩,
    ⟨(some 8), .mov (.t 20), none, []⟩] [1, 2, 5, 6, 7, 8])
  (.seq (.seq (.reg false [⟨(some 21), .load (some 6) (.t 2), none, []⟩,
    ⟨(some 22), .call (.c (.func (.func 12) [] [])) [(.t 21)], none, []⟩,
    ⟨(some 23), .bin .neq (.t 22) (.c (.int .i64 0)), none, []⟩] [1, 5, 6, 7, 8, 23])
  (.cond (.t 23) (.seq (.reg false [⟨(some 24), .mov (.t 6), none, []⟩,
    ⟨(some 25), .bin .eql (.t 24) (.c (.int .i64 91)), none, []⟩,
    ⟨(some 26), .mov (.t 25), none, []⟩,
    ⟨(some 27), .mov (.t 8), (some (26, true)), []⟩,
    ⟨(some 28), .bin .eql (.t 27) (.c (.int .i64 91)), (some (26, true)), []⟩,
    ⟨(some 29), .pick (.t 26) (.t 28) (.c (.bool false)), none, []⟩,
    ⟨(some 30), .mov (.t 29), none, []⟩,
    ⟨(some 31), .call (.c (.func (.func 9) [] [])) [], (some (30, true)), []⟩,
    ⟨(some 32), .pick (.t 30) (.t 31) (.c (.bool false)), none, []⟩,
    ⟨(some 4), .mov (.t 32), none, []⟩] [4])
  .ret) .skip))
  (.seq (.seq (.reg false [⟨(some 33), .mov (.t 7), none, []⟩,
    ⟨(some 34), .mov (.t 1), none, []⟩,
    ⟨(some 35), .bin .gtr (.t 33) (.t 34), none, []⟩,
    ⟨(some 36), .mov (.t 35), none, []⟩,
    ⟨(some 37), .mov (.t 7), (some (36, false)), []⟩,
    ⟨(some 38), .bin .gtr (.t 37) (.c (.int .i64 65536)), (some (36, false)), []⟩,
    ⟨(some 39), .pick (.t 36) (.c (.bool true)) (.t 38), none, []⟩] [5, 6, 7, 8, 39])
  (.cond (.t 39) (.seq (.reg false [⟨(some 40), .mov (.t 6), none, []⟩,
    ⟨(some 41), .bin .eql (.t 40) (.c (.int .i64 100)), none, []⟩,
    ⟨(some 42), .mov (.t 41), none, []⟩,
    ⟨(some 43), .mov (.t 5), (some (42, true)), []⟩,
    ⟨(some 44), .len (.t 43), (some (42, true)), []⟩,
    ⟨(some 45), .bin .eql (.t 44) (.c (.int .i64 0)), (some (42, true)), []⟩,
    ⟨(some 46), .pick (.t 42) (.t 45) (.c (.bool false)), none, []⟩,
    ⟨(some 47), .mov (.t 46), none, []⟩,
    ⟨(some 48), .call (.c (.func (.func 9) [] [])) [], (some (47, true)), []⟩,
    ⟨(some 49), .pick (.t 47) (.t 48) (.c (.bool false)), none, []⟩,
    ⟨(some 4), .mov (.t 49), none, []⟩] [4])
  .ret) .skip))
  (.seq (.seq (.reg false [⟨(some 50), .mov (.t 6), none, []⟩,
    ⟨(some 51), .bin .neq (.t 50) (.c (.int .i64 0)), none, []⟩,
    ⟨(some 52), .mov (.t 51), none, []⟩,
    ⟨(some 53), .mov (.t 8), (some (52, false)), []⟩,
    ⟨(some 54), .bin .neq (.t 53) (.c (.int .i64 0)), (some (52, false)), []⟩,
    ⟨(some 55), .pick (.t 52) (.c (.bool true)) (.t 54), none, []⟩,
    ⟨(some 56), .mov (.t 55), none, []⟩,
    ⟨(some 57), .mov (.t 5), (some (56, false)), []⟩,
    ⟨(some 58), .len (.t 57), (some (56, false)), []⟩,
    ⟨(some 59), .mov (.t 7), (some (56, false)), []⟩,
    ⟨(some 60), .bin .neq (.t 58) (.t 59), (some (56, false)), []⟩,
    ⟨(some 61), .pick (.t 56) (.c (.bool true)) (.t 60), none, []⟩,
    ⟨(some 62), .mov (.t 61), none, []⟩,
    ⟨(some 63), .mov (.t 5), (some (62, false)), []⟩,
    ⟨(some 64), .call (.c (.func (.func 7) [] [])) [(.t 63)], (some (62, false)), []⟩,
    ⟨(some 65), .bin .neq (.t 64) (.c (.int .i64 0)), (some (62, false)), []⟩,
    ⟨(some 66), .pick (.t 62) (.c (.bool true)) (.t 65), none, []⟩] [5, 7, 66])
  (.cond (.t 66) (.seq (.reg false [⟨(some 4), .mov (.c (.bool false)), none, []⟩] [4])
  .ret) .skip))
  (.seq (.seq (.reg false [⟨(some 9), .mov (.c (.int .i64 0)), none, []⟩] [5, 7, 9])
  (.block 0 (.loop [5, 7, 9] f4_l0)))
  (.seq (.reg false [⟨(some 83), .call (.c (.func (.func 9) [] [])) [], none, []⟩,
    ⟨(some 4), .mov (.t 83), none, []⟩] [4])
  .ret))))))))
def f4 : VFn := ⟨2, 84, f4_c, [.t 4], true, []⟩
/- caliper/caliperlaw10.NfaWrites -/
def f5_l0 : VCode :=
  (.seq (.seq (.reg false [⟨(some 33), .mov (.t 6), none, []⟩,
    ⟨(some 34), .mov (.t 1), none, []⟩,
    ⟨(some 35), .bin .lss (.t 33) (.t 34), none, []⟩] [1, 2, 5, 6, 35])
  (.cond (.t 35) .skip (.exit 0)))
  (.seq (.block 1 (.reg false [⟨(some 38), .faddr 5 (.t 5), none, []⟩,
    ⟨(some 39), .load none (.t 38), none, []⟩,
    ⟨(some 40), .load (some 6) (.t 2), none, []⟩,
    ⟨(some 41), .buildRow true 6 1 [(.int .i64 0), (.sl 0 [] true), (.int .i64 0), (.int .i64 0), (.bool false), (.sl 0 [] true)] [(0, (.t 40))], none, []⟩,
    ⟨(some 42), .append 6 80 (.t 39) (.t 41), none, []⟩,
    ⟨(some 43), .faddr 5 (.t 5), none, []⟩,
    ⟨none, .store false 1 (.t 43) (.t 42), none, []⟩] [1, 2, 5, 6]))
  (.reg false [⟨(some 36), .mov (.t 6), none, []⟩,
    ⟨(some 37), .bin .add (.t 36) (.c (.int .i64 1)), none, []⟩,
    ⟨(some 6), .mov (.t 37), none, []⟩] [1, 2, 5, 6])))
def f5_c : VCode :=
  (.seq (.reg false [⟨(some 2), .box true 6 (.t 0), none, []⟩,
    ⟨(some 4), .mov (.c (.bool false)), none, []⟩] [1, 2])
  (.seq (.seq (.reg false [⟨(some 15), .load (some 6) (.t 2), none, []⟩,
    ⟨(some 16), .call (.c (.func (.func 12) [] [])) [(.t 15)], none, []⟩,
    ⟨(some 17), .bin .neq (.t 16) (.c (.int .i64 0)), none, []⟩,
    ⟨(some 18), .mov (.t 17), none, []⟩,
    ⟨(some 19), .mov (.t 1), (some (18, false)), []⟩,
    ⟨(some 20), .bin .lss (.t 19) (.c (.int .i64 2)), (some (18, false)), []⟩,
    ⟨(some 21), .pick (.t 18) (.c (.bool true)) (.t 20), none, []⟩,
    ⟨(some 22), .mov (.t 21), none, []⟩,
    ⟨(some 23), .mov (.t 1), (some (22, false)), []⟩,
    ⟨(some 24), .bin .gtr (.t 23) (.c (.int .i64 12)), (some (22, false)), []⟩,
    ⟨(some 25), .pick (.t 22) (.c (.bool true)) (.t 24), none, []⟩,
    ⟨(some 26), .mov (.t 25), none, []⟩,
    ⟨(some 27), .load (some 6) (.t 2), (some (26, false)), []⟩,
    ⟨(some 28), .call (.c (.func (.func 13) [] [])) [(.t 27)], (some (26, false)), []⟩,
    ⟨(some 29), .bin .gtr (.t 28) (.c (.int .i64 900)), (some (26, false)), []⟩,
    ⟨(some 30), .pick (.t 26) (.c (.bool true)) (.t 29), none, []⟩] [1, 2, 30])
  (.cond (.t 30) (.seq (.reg false [⟨(some 31), .call (.c (.func (.func 9) [] [])) [], none, []⟩,
    ⟨(some 4), .mov (.t 31), none, []⟩] [4])
  .ret) .skip))
  (.seq (.reg false [⟨(some 32), .build [(.int .i64 0), (.sl 0 [] true), (.int .i64 0), (.int .i64 0), (.bool false), (.sl 0 [] true)] [(0, 1, (.c (.int .i64 3)))], none, []⟩,
    ⟨(some 5), .alloc true [(.int .i64 0), (.sl 0 [] true), (.int .i64 0), (.int .i64 0), (.bool false), (.sl 0 [] true)], none, []⟩,
    ⟨none, .store true 6 (.t 5) (.t 32), none, []⟩] [1, 2, 5])
  (.seq (.seq (.reg false [⟨(some 6), .mov (.c (.int .i64 0)), none, []⟩] [1, 2, 5, 6])
  (.block 0 (.loop [1, 2, 5, 6] f5_l0)))
  (.seq (.reg false [⟨(some 45), .mov (.t 1), none, []⟩,
    ⟨(some 46), .mov (.t 1), none, []⟩,
    ⟨(some 47), .load (some 6) (.t 2), none, []⟩,
    ⟨(some 48), .buildRow true 6 1 [(.int .i64 0), (.sl 0 [] true), (.int .i64 0), (.int .i64 0), (.bool false), (.sl 0 [] true)] [(0, (.t 47))], none, []⟩,
    ⟨(some 49), .build [(.int .i64 0), (.sl 0 [] true), (.int .i64 0), (.int .i64 0), (.bool false), (.sl 0 [] true)] [(0, 1, (.c (.int .i64 5))), (2, 1, (.t 45)), (3, 1, (.t 46)), (5, 1, (.t 48))], none, []⟩,
    ⟨(some 50), .call (.c (.func (.func 10) [] [])) [(.t 49), (.c (.int .i64 65536))], none, []⟩,
    ⟨(some 44), .mov (.t 50), none, []⟩,
    ⟨(some 51), .extract (.t 44) 0, none, []⟩,
    ⟨(some 52), .extract (.t 44) 1, none, []⟩,
    ⟨(some 7), .mov (.t 51), none, []⟩,
    ⟨(some 8), .mov (.t 52), none, []⟩] [1, 2, 5, 7, 8])
  (.seq (.reg false [⟨(some 54), .load (some 6) (.t 5), none, []⟩,
    ⟨(some 55), .call (.c (.func (.func 10) [] [])) [(.t 54), (.c (.int .i64 65536))], none, []⟩,
    ⟨(some 53), .mov (.t 55), none, []⟩,
    ⟨(some 56), .extract (.t 53) 0, none, []⟩,
    ⟨(some 57), .extract (.t 53) 1, none, []⟩,
    ⟨(some 9), .mov (.t 56), none, []⟩,
    ⟨(some 10), .mov (.t 57), none, []⟩] [1, 2, 5, 7, 8, 9, 10])
  (.seq (.reg false [⟨(some 58), .faddr 5 (.t 5), none, []⟩,
    ⟨(some 59), .load none (.t 58), none, []⟩,
    ⟨(some 60), .load (some 6) (.t 2), none, []⟩,
    ⟨(some 61), .buildRow true 6 1 [(.int .i64 0), (.sl 0 [] true), (.int .i64 0), (.int .i64 0), (.bool false), (.sl 0 [] true)] [(0, (.t 60))], none, []⟩,
    ⟨(some 62), .build [(.int .i64 0), (.sl 0 [] true), (.int .i64 0), (.int .i64 0), (.bool false), (.sl 0 [] true)] [(0, 1, (.c (.int .i64 5))), (3, 1, (.c (.int .i64 (-1)))), (5, 1, (.t 61))], none, []⟩,
    ⟨(some 63), .buildRow true 6 1 [(.int .i64 0), (.sl 0 [] true), (.int .i64 0), (.int .i64 0), (.bool false), (.sl 0 [] true)] [(0, (.t 62))], none, []⟩,
    ⟨(some 64), .append 6 80 (.t 59) (.t 63), none, []⟩,
    ⟨(some 65), .faddr 5 (.t 5), none, []⟩,
    ⟨none, .store false 1 (.t 65) (.t 64), none, []⟩] [1, 2, 5, 7, 8, 9, 10])
  (.seq (.reg false [⟨(some 67), .mov (.t 1), none, []⟩,
    ⟨(some 68), .load (some 6) (.t 2), none, []⟩,
    ⟨(some 69), .buildRow true 6 1 [(.int .i64 0), (.sl 0 [] true), (.int .i64 0), (.int .i64 0), (.bool false), (.sl 0 [] true)] [(0, (.t 68))], none, []⟩,
    ⟨(some 70), .build [(.int .i64 0), (.sl 0 [] true), (.int .i64 0), (.int .i64 0), (.bool false), (.sl 0 [] true)] [(0, 1, (.c (.int .i64 5))), (2, 1, (.t 67)), (3, 1, (.c (.int .i64 (-1)))), (4, 1, (.c (.bool true))), (5, 1, (.t 69))], none, []⟩,
    ⟨(some 71), .call (.c (.func (.func 10) [] [])) [(.t 70), (.c (.int .i64 65536))], none, []⟩,
    ⟨(some 66), .mov (.t 71), none, []⟩,
    ⟨(some 72), .extract (.t 66) 0, none, []⟩,
    ⟨(some 73), .extract (.t 66) 1, none, []⟩,
    ⟨(some 11), .mov (.t 72), none, []⟩,
    ⟨(some 12), .mov (.t 73), none, []⟩] [5, 7, 8, 9, 10, 11, 12])
  (.seq (.reg false [⟨(some 75), .load (some 6) (.t 5), none, []⟩,
    ⟨(some 76), .call (.c (.func (.func 10) [] [])) [(.t 75), (.c (.int .i64 65536))], none, []⟩,
    ⟨(some 74), .mov (.t 76), none, []⟩,
    ⟨(some 77), .extract (.t 74) 0, none, []⟩,
    ⟨(some 78), .extract (.t 74) 1, none, []⟩,
    ⟨(some 13), .mov (.t 77), none, []⟩,
    ⟨(some 14), .mov (.t 78), none, []⟩] [7, 8, 9, 10, 11, 12, 13, 14])
  (.seq (.reg false [⟨(some 79), .mov (.t 7), none, []⟩,
    ⟨(some 80), .mov (.t 9), none, []⟩,
    ⟨(some 81), .call (.c (.func (.func 14) [] [])) [(.t 79), (.t 80)], none, []⟩,
    ⟨(some 82), .mov (.t 81), none, []⟩,
    ⟨(some 83), .mov (.t 8), (some (82, true)), []⟩,
    ⟨(some 84), .mov (.t 10), (some (82, true)), []⟩,
    ⟨(some 85), .bin .eql (.t 83) (.t 84), (some (82, true)), []⟩,
    ⟨(some 86), .pick (.t 82) (.t 85) (.c (.bool false)), none, []⟩,
    ⟨(some 87), .mov (.t 86), none, []⟩,
    ⟨(some 88), .mov (.t 11), (some (87, true)), []⟩,
    ⟨(some 89), .mov (.t 13), (some (87, true)), []⟩,
    ⟨(some 90), .call (.c (.func (.func 14) [] [])) [(.t 88), (.t 89)], (some (87, true)), []⟩,
    ⟨(some 91), .pick (.t 87) (.t 90) (.c (.bool false)), none, []⟩,
    ⟨(some 92), .mov (.t 91), none, []⟩,
    ⟨(some 93), .mov (.t 12), (some (92, true)), []⟩,
    ⟨(some 94), .mov (.t 14), (some (92, true)), []⟩,
    ⟨(some 95), .bin .eql (.t 93) (.t 94), (some (92, true)), []⟩,
    ⟨(some 96), .pick (.t 92) (.t 95) (.c (.bool false)), none, []⟩,
    ⟨(some 97), .mov (.t 96), none, []⟩,
    ⟨(some 98), .call (.c (.func (.func 9) [] [])) [], (some (97, true)), []⟩,
    ⟨(some 99), .pick (.t 97) (.t 98) (.c (.bool false)), none, []⟩,
    ⟨(some 4), .mov (.t 99), none, []⟩] [4])
  .ret))))))))))
def f5 : VFn := ⟨2, 100, f5_c, [.t 4], true, []⟩
/- caliper/caliperlaw10.NfaGrows -/
def f6_c : VCode :=
  (.seq (.reg false [⟨(some 3), .box true 6 (.t 0), none, []⟩,
    ⟨(some 6), .mov (.c (.bool false)), none, []⟩] [1, 2, 3])
  (.seq (.seq (.reg false [⟨(some 11), .load (some 6) (.t 3), none, []⟩,
    ⟨(some 12), .call (.c (.func (.func 12) [] [])) [(.t 11)], none, []⟩,
    ⟨(some 13), .bin .neq (.t 12) (.c (.int .i64 0)), none, []⟩,
    ⟨(some 14), .mov (.t 13), none, []⟩,
    ⟨(some 15), .mov (.t 1), (some (14, false)), []⟩,
    ⟨(some 16), .bin .lss (.t 15) (.c (.int .i64 0)), (some (14, false)), []⟩,
    ⟨(some 17), .pick (.t 14) (.c (.bool true)) (.t 16), none, []⟩,
    ⟨(some 18), .mov (.t 17), none, []⟩,
    ⟨(some 19), .mov (.t 2), (some (18, false)), []⟩,
    ⟨(some 20), .mov (.t 1), (some (18, false)), []⟩,
    ⟨(some 21), .bin .lss (.t 19) (.t 20), (some (18, false)), []⟩,
    ⟨(some 22), .pick (.t 18) (.c (.bool true)) (.t 21), none, []⟩,
    ⟨(some 23), .mov (.t 22), none, []⟩,
    ⟨(some 24), .mov (.t 2), (some (23, false)), []⟩,
    ⟨(some 25), .bin .gtr (.t 24) (.c (.int .i64 1073741824)), (some (23, false)), []⟩,
    ⟨(some 26), .pick (.t 23) (.c (.bool true)) (.t 25), none, []⟩] [1, 2, 3, 26])
  (.cond (.t 26) (.seq (.reg false [⟨(some 27), .call (.c (.func (.func 9) [] [])) [], none, []⟩,
    ⟨(some 6), .mov (.t 27), none, []⟩] [6])
  .ret) .skip))
  (.seq (.reg false [⟨(some 29), .load (some 6) (.t 3), none, []⟩,
    ⟨(some 30), .mov (.t 1), none, []⟩,
    ⟨(some 31), .call (.c (.func (.func 11) [] [])) [(.t 29), (.t 30)], none, []⟩,
    ⟨(some 28), .mov (.t 31), none, []⟩,
    ⟨(some 32), .extract (.t 28) 0, none, []⟩,
    ⟨(some 33), .extract (.t 28) 1, none, []⟩,
    ⟨(some 7), .mov (.t 32), none, []⟩,
    ⟨(some 8), .mov (.t 33), none, []⟩] [1, 2, 3, 7, 8])
  (.seq (.reg false [⟨(some 35), .load (some 6) (.t 3), none, []⟩,
    ⟨(some 36), .mov (.t 2), none, []⟩,
    ⟨(some 37), .call (.c (.func (.func 11) [] [])) [(.t 35), (.t 36)], none, []⟩,
    ⟨(some 34), .mov (.t 37), none, []⟩,
    ⟨(some 38), .extract (.t 34) 0, none, []⟩,
    ⟨(some 39), .extract (.t 34) 1, none, []⟩,
    ⟨(some 9), .mov (.t 38), none, []⟩,
    ⟨(some 10), .mov (.t 39), none, []⟩] [1, 2, 7, 8, 9, 10])
  (.seq (.reg false [⟨(some 40), .mov (.t 8), none, []⟩,
    ⟨(some 41), .bin .eql (.t 40) (.c (.int .i64 0)), none, []⟩,
    ⟨(some 42), .mov (.t 41), none, []⟩,
    ⟨(some 43), .mov (.t 10), (some (42, true)), []⟩,
    ⟨(some 44), .bin .eql (.t 43) (.c (.int .i64 0)), (some (42, true)), []⟩,
    ⟨(some 45), .pick (.t 42) (.t 44) (.c (.bool false)), none, []⟩,
    ⟨(some 46), .mov (.t 45), none, []⟩,
    ⟨(some 47), .mov (.t 7), (some (46, true)), []⟩,
    ⟨(some 48), .bin .geq (.t 47) (.c (.int .i64 1)), (some (46, true)), []⟩,
    ⟨(some 49), .pick (.t 46) (.t 48) (.c (.bool false)), none, []⟩,
    ⟨(some 50), .mov (.t 49), none, []⟩,
    ⟨(some 51), .mov (.t 7), (some (50, true)), []⟩,
    ⟨(some 52), .mov (.t 1), (some (50, true)), []⟩,
    ⟨(some 53), .bin .add (.t 52) (.c (.int .i64 1)), (some (50, true)), []⟩,
    ⟨(some 54), .bin .leq (.t 51) (.t 53), (some (50, true)), []⟩,
    ⟨(some 55), .pick (.t 50) (.t 54) (.c (.bool false)), none, []⟩,
    ⟨(some 56), .mov (.t 55), none, []⟩,
    ⟨(some 57), .mov (.t 9), (some (56, true)), []⟩,
    ⟨(some 58), .mov (.t 2), (some (56, true)), []⟩,
    ⟨(some 59), .bin .add (.t 58) (.c (.int .i64 1)), (some (56, true)), []⟩,
    ⟨(some 60), .bin .leq (.t 57) (.t 59), (some (56, true)), []⟩,
    ⟨(some 61), .pick (.t 56) (.t 60) (.c (.bool false)), none, []⟩,
    ⟨(some 62), .mov (.t 61), none, []⟩,
    ⟨(some 63), .mov (.t 7), (some (62, true)), []⟩,
    ⟨(some 64), .mov (.t 9), (some (62, true)), []⟩,
    ⟨(some 65), .mov (.t 1), (some (62, true)), []⟩,
    ⟨(some 66), .bin .add (.t 65) (.c (.int .i64 1)), (some (62, true)), []⟩,
    ⟨(some 67), .min [(.t 64), (.t 66)], (some (62, true)), []⟩,
    ⟨(some 68), .bin .eql (.t 63) (.t 67), (some (62, true)), []⟩,
    ⟨(some 69), .pick (.t 62) (.t 68) (.c (.bool false)), none, []⟩,
    ⟨(some 70), .mov (.t 69), none, []⟩,
    ⟨(some 71), .call (.c (.func (.func 9) [] [])) [], (some (70, true)), []⟩,
    ⟨(some 72), .pick (.t 70) (.t 71) (.c (.bool false)), none, []⟩,
    ⟨(some 6), .mov (.t 72), none, []⟩] [6])
  .ret)))))
def f6 : VFn := ⟨3, 73, f6_c, [.t 6], true, []⟩
/- caliper/nfa.Check -/
def f7_c : VCode :=
  (.seq (.reg false [⟨(some 1), .box false 1 (.t 0), none, []⟩,
    ⟨(some 2), .mov (.c (.int .i64 0)), none, []⟩] [1])
  (.seq (.seq (.reg false [⟨(some 3), .load none (.t 1), none, []⟩,
    ⟨(some 4), .len (.t 3), none, []⟩,
    ⟨(some 5), .bin .eql (.t 4) (.c (.int .i64 0)), none, []⟩,
    ⟨(some 6), .mov (.t 5), none, []⟩,
    ⟨(some 7), .load none (.t 1), (some (6, false)), []⟩,
    ⟨(some 8), .mkfunc (.func 16) [] [(.t 1)], (some (6, false)), []⟩,
    ⟨(some 9), .call (.c (.func (.func 15) [] [])) [(.t 7), (.t 8)], (some (6, false)), []⟩,
    ⟨(some 10), .pick (.t 6) (.c (.bool true)) (.t 9), none, []⟩] [10])
  (.cond (.t 10) (.seq (.reg false [⟨(some 2), .mov (.c (.int .i64 101)), none, []⟩] [2])
  .ret) .skip))
  (.seq (.reg false [⟨(some 2), .mov (.c (.int .i64 0)), none, []⟩] [2])
  .ret)))
def f7 : VFn := ⟨1, 11, f7_c, [.t 2], true, []⟩
/- caliper/caliperref10.Check -/
def f8_l0 : VCode :=
  (.seq (.seq (.reg false [⟨(some 5), .mov (.t 3), none, []⟩,
    ⟨(some 6), .mov (.t 0), none, []⟩,
    ⟨(some 7), .len (.t 6), none, []⟩,
    ⟨(some 8), .bin .lss (.t 5) (.t 7), none, []⟩] [0, 3, 8])
  (.cond (.t 8) .skip (.exit 0)))
  (.seq (.block 1 (.seq (.reg false [⟨(some 11), .mov (.t 0), none, []⟩,
    ⟨(some 12), .mov (.t 3), none, []⟩,
    ⟨(some 13), .iaddr 4 (.t 11) (.t 12), none, []⟩,
    ⟨(some 14), .load (some 4) (.t 13), none, []⟩,
    ⟨(some 4), .alloc true [(.int .i64 0), (.sl 0 [] true), (.int .i64 0), (.int .i64 0)], none, []⟩,
    ⟨none, .store true 4 (.t 4) (.t 14), none, []⟩] [0, 3, 4])
  (.seq (.seq (.reg false [⟨(some 15), .faddr 0 (.t 4), none, []⟩,
    ⟨(some 16), .load none (.t 15), none, []⟩,
    ⟨(some 17), .bin .lss (.t 16) (.c (.int .i64 1)), none, []⟩,
    ⟨(some 18), .mov (.t 17), none, []⟩,
    ⟨(some 19), .faddr 0 (.t 4), (some (18, false)), []⟩,
    ⟨(some 20), .load none (.t 19), (some (18, false)), []⟩,
    ⟨(some 21), .bin .gtr (.t 20) (.c (.int .i64 7)), (some (18, false)), []⟩,
    ⟨(some 22), .pick (.t 18) (.c (.bool true)) (.t 21), none, []⟩,
    ⟨(some 23), .mov (.t 22), none, []⟩,
    ⟨(some 24), .faddr 2 (.t 4), (some (23, false)), []⟩,
    ⟨(some 25), .load none (.t 24), (some (23, false)), []⟩,
    ⟨(some 26), .bin .lss (.t 25) (.c (.int .i64 0)), (some (23, false)), []⟩,
    ⟨(some 27), .pick (.t 23) (.c (.bool true)) (.t 26), none, []⟩,
    ⟨(some 28), .mov (.t 27), none, []⟩,
    ⟨(some 29), .faddr 2 (.t 4), (some (28, false)), []⟩,
    ⟨(some 30), .load none (.t 29), (some (28, false)), []⟩,
    ⟨(some 31), .mov (.t 0), (some (28, false)), []⟩,
    ⟨(some 32), .len (.t 31), (some (28, false)), []⟩,
    ⟨(some 33), .bin .geq (.t 30) (.t 32), (some (28, false)), []⟩,
    ⟨(some 34), .pick (.t 28) (.c (.bool true)) (.t 33), none, []⟩,
    ⟨(some 35), .mov (.t 34), none, []⟩,
    ⟨(some 36), .faddr 3 (.t 4), (some (35, false)), []⟩,
    ⟨(some 37), .load none (.t 36), (some (35, false)), []⟩,
    ⟨(some 38), .bin .lss (.t 37) (.c (.int .i64 0)), (some (35, false)), []⟩,
    ⟨(some 39), .pick (.t 35) (.c (.bool true)) (.t 38), none, []⟩,
    ⟨(some 40), .mov (.t 39), none, []⟩,
    ⟨(some 41), .faddr 3 (.t 4), (some (40, false)), []⟩,
    ⟨(some 42), .load none (.t 41), (some (40, false)), []⟩,
    ⟨(some 43), .mov (.t 0), (some (40, false)), []⟩,
    ⟨(some 44), .len (.t 43), (some (40, false)), []⟩,
    ⟨(some 45), .bin .geq (.t 42) (.t 44), (some (40, false)), []⟩,
    ⟨(some 46), .pick (.t 40) (.c (.bool true)) (.t 45), none, []⟩] [0, 3, 4, 46])
  (.cond (.t 46) (.seq (.reg false [⟨(some 2), .mov (.c (.int .i64 101)), none, []⟩] [2])
  .ret) .skip))
  (.seq (.seq (.reg false [⟨(some 47), .faddr 0 (.t 4), none, []⟩,
    ⟨(some 48), .load none (.t 47), none, []⟩,
    ⟨(some 49), .bin .eql (.t 48) (.c (.int .i64 7)), none, []⟩,
    ⟨(some 50), .mov (.t 49), none, []⟩,
    ⟨(some 51), .faddr 2 (.t 4), (some (50, true)), []⟩,
    ⟨(some 52), .load none (.t 51), (some (50, true)), []⟩,
    ⟨(some 53), .bin .neq (.t 52) (.c (.int .i64 0)), (some (50, true)), []⟩,
    ⟨(some 54), .pick (.t 50) (.t 53) (.c (.bool false)), none, []⟩,
    ⟨(some 55), .mov (.t 54), none, []⟩,
    ⟨(some 56), .faddr 0 (.t 4), (some (55, false)), []⟩,
    ⟨(some 57), .load none (.t 56), (some (55, false)), []⟩,
    ⟨(some 58), .bin .neq (.t 57) (.c (.int .i64 2)), (some (55, false)), []⟩,
    ⟨(some 59), .mov (.t 58), (some (55, false)), []⟩,
    ⟨(some 60), .faddr 3 (.t 4), (some (59, true)), []⟩,
    ⟨(some 61), .load none (.t 60), (some (59, true)), []⟩,
    ⟨(some 62), .bin .neq (.t 61) (.c (.int .i64 0)), (some (59, true)), []⟩,
    ⟨(some 63), .pick (.t 59) (.t 62) (.c (.bool false)), (some (55, false)), []⟩,
    ⟨(some 64), .pick (.t 55) (.c (.bool true)) (.t 63), none, []⟩,
    ⟨(some 65), .mov (.t 64), none, []⟩,
    ⟨(some 66), .faddr 0 (.t 4), (some (65, false)), []⟩,
    ⟨(some 67), .load none (.t 66), (some (65, false)), []⟩,
    ⟨(some 68), .bin .neq (.t 67) (.c (.int .i64 1)), (some (65, false)), []⟩,
    ⟨(some 69), .mov (.t 68), (some (65, false)), []⟩,
    ⟨(some 70), .faddr 1 (.t 4), (some (69, true)), []⟩,
    ⟨(some 71), .load none (.t 70), (some (69, true)), []⟩,
    ⟨(some 72), .len (.t 71), (some (69, true)), []⟩,
    ⟨(some 73), .bin .gtr (.t 72) (.c (.int .i64 0)), (some (69, true)), []⟩,
    ⟨(some 74), .pick (.t 69) (.t 73) (.c (.bool false)), (some (65, false)), []⟩,
    ⟨(some 75), .pick (.t 65) (.c (.bool true)) (.t 74), none, []⟩] [0, 3, 4, 75])
  (.cond (.t 75) (.seq (.reg false [⟨(some 2), .mov (.c (.int .i64 101)), none, []⟩] [2])
  .ret) .skip))
  (.seq (.reg true [⟨(some 76), .faddr 1 (.t 4), none, []⟩,
    ⟨(some 77), .load none (.t 76), none, []⟩,
    ⟨(some 78), .call (.c (.func (.func 19) [] [])) [(.t 77)], none, []⟩,
    ⟨(some 79), .faddr 1 (.t 4), none, []⟩,
    ⟨(some 80), .load none (.t 79), none, []⟩,
    ⟨(some 81), .call (.c (.func (.func 18) [] [])) [(.t 78), (.t 80)], none, []⟩,
    ⟨(some 82), .un .not (.t 81), none, []⟩] [0, 3, 82])
  (.cond (.t 82) (.seq (.reg false [⟨(some 2), .mov (.c (.int .i64 101)), none, []⟩] [2])
  .ret) .skip))))))
  (.reg false [⟨(some 9), .mov (.t 3), none, []⟩,
    ⟨(some 10), .bin .add (.t 9) (.c (.int .i64 1)), none, []⟩,
    ⟨(some 3), .mov (.t 10), none, []⟩] [0, 3])))
def f8_c : VCode :=
  (.seq (.reg false [⟨(some 2), .mov (.c (.int .i64 0)), none, []⟩] [0])
  (.seq (.seq (.reg false [⟨(some 3), .mov (.c (.int .i64 0)), none, []⟩] [0, 3])
  (.block 0 (.loop [0, 3] f8_l0)))
  (.seq (.seq (.reg false [⟨(some 83), .mov (.t 0), none, []⟩,
    ⟨(some 84), .len (.t 83), none, []⟩,
    ⟨(some 85), .bin .eql (.t 84) (.c (.int .i64 0)), none, []⟩] [85])
  (.cond (.t 85) (.seq (.reg false [⟨(some 2), .mov (.c (.int .i64 101)), none, []⟩] [2])
  .ret) .skip))
  (.seq (.reg false [⟨(some 2), .mov (.c (.int .i64 0)), none, []⟩] [2])
  .ret))))
def f8 : VFn := ⟨1, 86, f8_c, [.t 2], true, []⟩
/- caliper/caliperlaw10.heads -/
def f9_c : VCode :=
  (.seq (.reg false [⟨(some 0), .mov (.c (.bool false)), none, []⟩] [])
  (.seq (.reg false [⟨(some 11), .call (.c (.func (.func 20) [] [])) [(.c (.int .i64 97))], none, []⟩,
    ⟨(some 12), .call (.c (.func (.func 20) [] [])) [(.c (.int .i64 98))], none, []⟩,
    ⟨(some 13), .buildRow true 6 2 [(.int .i64 0), (.sl 0 [] true), (.int .i64 0), (.int .i64 0), (.bool false), (.sl 0 [] true)] [(0, (.t 11)), (1, (.t 12))], none, []⟩,
    ⟨(some 14), .build [(.int .i64 0), (.sl 0 [] true), (.int .i64 0), (.int .i64 0), (.bool false), (.sl 0 [] true)] [(0, 1, (.c (.int .i64 4))), (5, 1, (.t 13))], none, []⟩,
    ⟨(some 1), .alloc true [(.int .i64 0), (.sl 0 [] true), (.int .i64 0), (.int .i64 0), (.bool false), (.sl 0 [] true)], none, []⟩,
    ⟨none, .store true 6 (.t 1) (.t 14), none, []⟩] [1])
  (.seq (.reg false [⟨(some 16), .load (some 6) (.t 1), none, []⟩,
    ⟨(some 17), .call (.c (.func (.func 10) [] [])) [(.t 16), (.c (.int .i64 5))], none, []⟩,
    ⟨(some 15), .mov (.t 17), none, []⟩,
    ⟨(some 18), .extract (.t 15) 0, none, []⟩,
    ⟨(some 19), .extract (.t 15) 1, none, []⟩,
    ⟨(some 2), .mov (.t 18), none, []⟩,
    ⟨(some 3), .mov (.t 19), none, []⟩] [1, 2, 3])
  (.seq (.reg false [⟨(some 21), .load (some 6) (.t 1), none, []⟩,
    ⟨(some 22), .call (.c (.func (.func 10) [] [])) [(.t 21), (.c (.int .i64 4))], none, []⟩,
    ⟨(some 20), .mov (.t 22), none, []⟩,
    ⟨(some 23), .extract (.t 20) 0, none, []⟩,
    ⟨(some 24), .extract (.t 20) 1, none, []⟩,
    ⟨(some 4), .mov (.t 23), none, []⟩,
    ⟨(some 5), .mov (.t 24), none, []⟩] [1, 2, 3, 5])
  (.seq (.reg false [⟨(some 26), .load (some 6) (.t 1), none, []⟩,
    ⟨(some 27), .call (.c (.func (.func 11) [] [])) [(.t 26), (.c (.int .i64 100))], none, []⟩,
    ⟨(some 25), .mov (.t 27), none, []⟩,
    ⟨(some 28), .extract (.t 25) 0, none, []⟩,
    ⟨(some 29), .extract (.t 25) 1, none, []⟩,
    ⟨(some 6), .mov (.t 28), none, []⟩,
    ⟨(some 7), .mov (.t 29), none, []⟩] [2, 3, 5, 6, 7])
  (.seq (.reg false [⟨(some 30), .call (.c (.func (.func 20) [] [])) [(.c (.int .i64 97))], none, []⟩,
    ⟨(some 31), .buildRow true 6 1 [(.int .i64 0), (.sl 0 [] true), (.int .i64 0), (.int .i64 0), (.bool false), (.sl 0 [] true)] [(0, (.t 30))], none, []⟩,
    ⟨(some 32), .build [(.int .i64 0), (.sl 0 [] true), (.int .i64 0), (.int .i64 0), (.bool false), (.sl 0 [] true)] [(0, 1, (.c (.int .i64 5))), (2, 1, (.c (.int .i64 1000))), (3, 1, (.c (.int .i64 1000))), (5, 1, (.t 31))], none, []⟩,
    ⟨(some 8), .alloc true [(.int .i64 0), (.sl 0 [] true), (.int .i64 0), (.int .i64 0), (.bool false), (.sl 0 [] true)], none, []⟩,
    ⟨none, .store true 6 (.t 8) (.t 32), none, []⟩] [2, 3, 5, 6, 7, 8])
  (.seq (.reg false [⟨(some 34), .load (some 6) (.t 8), none, []⟩,
    ⟨(some 35), .buildRow true 6 1 [(.int .i64 0), (.sl 0 [] true), (.int .i64 0), (.int .i64 0), (.bool false), (.sl 0 [] true)] [(0, (.t 34))], none, []⟩,
    ⟨(some 36), .build [(.int .i64 0), (.sl 0 [] true), (.int .i64 0), (.int .i64 0), (.bool false), (.sl 0 [] true)] [(0, 1, (.c (.int .i64 5))), (2, 1, (.c (.int .i64 1000))), (3, 1, (.c (.int .i64 1000))), (5, 1, (.t 35))], none, []⟩,
    ⟨(some 37), .call (.c (.func (.func 11) [] [])) [(.t 36), (.c (.int .i64 100))], none, []⟩,
    ⟨(some 33), .mov (.t 37), none, []⟩,
    ⟨(some 38), .extract (.t 33) 0, none, []⟩,
    ⟨(some 39), .extract (.t 33) 1, none, []⟩,
    ⟨(some 9), .mov (.t 38), none, []⟩,
    ⟨(some 10), .mov (.t 39), none, []⟩] [2, 3, 5, 6, 7, 9, 10])
  (.seq (.reg false [⟨(some 40), .mov (.t 3), none, []⟩,
    ⟨(some 41), .bin .eql (.t 40) (.c (.int .i64 0)), none, []⟩,
    ⟨(some 42), .mov (.t 41), none, []⟩,
    ⟨(some 43), .mov (.t 2), (some (42, true)), []⟩,
    ⟨(some 44), .len (.t 43), (some (42, true)), []⟩,
    ⟨(some 45), .bin .eql (.t 44) (.c (.int .i64 5)), (some (42, true)), []⟩,
    ⟨(some 46), .pick (.t 42) (.t 45) (.c (.bool false)), none, []⟩,
    ⟨(some 47), .mov (.t 46), none, []⟩,
    ⟨(some 48), .mov (.t 2), (some (47, true)), []⟩,
    ⟨(some 49), .iaddr 4 (.t 48) (.c (.int .i64 0)), (some (47, true)), []⟩,
    ⟨(some 50), .faddr 0 (.t 49), (some (47, true)), []⟩,
    ⟨(some 51), .load none (.t 50), (some (47, true)), []⟩,
    ⟨(some 52), .bin .eql (.t 51) (.c (.int .i64 2)), (some (47, true)), []⟩,
    ⟨(some 53), .pick (.t 47) (.t 52) (.c (.bool false)), none, []⟩,
    ⟨(some 54), .mov (.t 53), none, []⟩,
    ⟨(some 55), .mov (.t 2), (some (54, true)), []⟩,
    ⟨(some 56), .iaddr 4 (.t 55) (.c (.int .i64 0)), (some (54, true)), []⟩,
    ⟨(some 57), .faddr 3 (.t 56), (some (54, true)), []⟩,
    ⟨(some 58), .load none (.t 57), (some (54, true)), []⟩,
    ⟨(some 59), .bin .eql (.t 58) (.c (.int .i64 3)), (some (54, true)), []⟩,
    ⟨(some 60), .pick (.t 54) (.t 59) (.c (.bool false)), none, []⟩,
    ⟨(some 61), .mov (.t 60), none, []⟩,
    ⟨(some 62), .mov (.t 2), (some (61, true)), []⟩,
    ⟨(some 63), .iaddr 4 (.t 62) (.c (.int .i64 2)), (some (61, true)), []⟩,
    ⟨(some 64), .faddr 2 (.t 63), (some (61, true)), []⟩,
    ⟨(some 65), .load none (.t 64), (some (61, true)), []⟩,
    ⟨(some 66), .bin .eql (.t 65) (.c (.int .i64 4)), (some (61, true)), []⟩,
    ⟨(some 67), .pick (.t 61) (.t 66) (.c (.bool false)), none, []⟩,
    ⟨(some 68), .mov (.t 67), none, []⟩,
    ⟨(some 69), .mov (.t 5), (some (68, true)), []⟩,
    ⟨(some 70), .bin .eql (.t 69) (.c (.int .i64 100)), (some (68, true)), []⟩,
    ⟨(some 71), .pick (.t 68) (.t 70) (.c (.bool false)), none, []⟩,
    ⟨(some 72), .mov (.t 71), none, []⟩,
    ⟨(some 73), .mov (.t 6), (some (72, true)), []⟩,
    ⟨(some 74), .bin .eql (.t 73) (.c (.int .i64 5)), (some (72, true)), []⟩,
    ⟨(some 75), .pick (.t 72) (.t 74) (.c (.bool false)), none, []⟩,
    ⟨(some 76), .mov (.t 75), none, []⟩,
    ⟨(some 77), .mov (.t 7), (some (76, true)), []⟩,
    ⟨(some 78), .bin .eql (.t 77) (.c (.int .i64 0)), (some (76, true)), []⟩,
    ⟨(some 79), .pick (.t 76) (.t 78) (.c (.bool false)), none, []⟩,
    ⟨(some 80), .mov (.t 79), none, []⟩,
    ⟨(some 81), .mov (.t 9), (some (80, true)), []⟩,
    ⟨(some 82), .bin .eql (.t 81) (.c (.int .i64 101)), (some (80, true)), []⟩,
    ⟨(some 83), .pick (.t 80) (.t 82) (.c (.bool false)), none, []⟩,
    ⟨(some 84), .mov (.t 83), none, []⟩,
    ⟨(some 85), .mov (.t 10), (some (84, true)), []⟩,
    ⟨(some 86), .bin .eql (.t 85) (.c (.int .i64 0)), (some (84, true)), []⟩,
    ⟨(some 87), .pick (.t 84) (.t 86) (.c (.bool false)), none, []⟩,
    ⟨(some 88), .mov (.t 87), none, []⟩,
    ⟨(some 89), .call (.c (.func (.func 7) [] [])) [(.c (.sl 0 [] true))], (some (88, true)), []⟩,
    ⟨(some 90), .bin .eql (.t 89) (.c (.int .i64 101)), (some (88, true)), []⟩,
    ⟨(some 91), .pick (.t 88) (.t 90) (.c (.bool false)), none, []⟩,
    ⟨(some 92), .mov (.t 91), none, []⟩,
    ⟨(some 93), .mov (.t 2), (some (92, true)), []⟩,
    ⟨(some 94), .call (.c (.func (.func 7) [] [])) [(.t 93)], (some (92, true)), []⟩,
    ⟨(some 95), .bin .eql (.t 94) (.c (.int .i64 0)), (some (92, true)), []⟩,
    ⟨(some 96), .pick (.t 92) (.t 95) (.c (.bool false)), none, []⟩,
    ⟨(some 0), .mov (.t 96), none, []⟩] [0])
  .ret))))))))
def f9 : VFn := ⟨0, 97, f9_c, [.t 0], true, []⟩
/- caliper/nfa.Compile -/
def f10_c : VCode :=
  (.seq (.reg false [⟨(some 2), .box true 6 (.t 0), none, []⟩,
    ⟨(some 4), .nilrow 4, none, []⟩,
    ⟨(some 5), .mov (.c (.int .i64 0)), none, []⟩] [1, 2])
  (.seq (.reg false [⟨(some 10), .load (some 6) (.t 2), none, []⟩,
    ⟨(some 11), .call (.c (.func (.func 11) [] [])) [(.t 10), (.c (.int .i64 65536))], none, []⟩,
    ⟨(some 9), .mov (.t 11), none, []⟩,
    ⟨(some 12), .extract (.t 9) 0, none, []⟩,
    ⟨(some 13), .extract (.t 9) 1, none, []⟩,
    ⟨(some 6), .mov (.t 12), none, []⟩,
    ⟨(some 7), .mov (.t 13), none, []⟩] [1, 2, 6, 7])
  (.seq (.seq (.reg false [⟨(some 14), .mov (.t 7), none, []⟩,
    ⟨(some 15), .bin .neq (.t 14) (.c (.int .i64 0)), none, []⟩] [1, 2, 6, 7, 15])
  (.cond (.t 15) (.seq (.reg false [⟨(some 16), .mov (.t 7), none, []⟩,
    ⟨(some 4), .nilrow 4, none, []⟩,
    ⟨(some 5), .mov (.t 16), none, []⟩] [4, 5])
  .ret) .skip))
  (.seq (.seq (.reg false [⟨(some 17), .mov (.t 6), none, []⟩,
    ⟨(some 18), .mov (.t 1), none, []⟩,
    ⟨(some 19), .bin .gtr (.t 17) (.t 18), none, []⟩,
    ⟨(some 20), .mov (.t 19), none, []⟩,
    ⟨(some 21), .mov (.t 6), (some (20, false)), []⟩,
    ⟨(some 22), .bin .gtr (.t 21) (.c (.int .i64 65536)), (some (20, false)), []⟩,
    ⟨(some 23), .pick (.t 20) (.c (.bool true)) (.t 22), none, []⟩] [2, 23])
  (.cond (.t 23) (.seq (.reg false [⟨(some 4), .nilrow 4, none, []⟩,
    ⟨(some 5), .mov (.c (.int .i64 100)), none, []⟩] [4, 5])
  .ret) .skip))
  (.seq (.seq (.reg false [⟨(some 24), .build [(.sl 0 [] true)] [], none, []⟩,
    ⟨(some 25), .box true 1 (.t 24), none, []⟩,
    ⟨(some 8), .mov (.t 25), none, []⟩] [2, 8])
  (.virt 8 0 4))
  (.seq (.reg false [⟨(some 26), .mov (.t 8), none, []⟩,
    ⟨(some 27), .load (some 6) (.t 2), none, []⟩,
    ⟨(some 28), .call (.c (.func (.func 21) [] [])) [(.t 26), (.t 27)], none, []⟩] [8])
  (.seq (.reg true [⟨(some 29), .mov (.t 8), none, []⟩,
    ⟨(some 30), .nilck (.t 29), none, []⟩,
    ⟨(some 31), .faddr 0 (.t 30), none, []⟩,
    ⟨(some 32), .load none (.t 31), none, []⟩,
    ⟨(some 33), .mov (.t 8), none, []⟩,
    ⟨(some 34), .nilck (.t 33), none, []⟩,
    ⟨(some 35), .faddr 0 (.t 34), none, []⟩,
    ⟨(some 36), .load none (.t 35), none, []⟩,
    ⟨(some 37), .len (.t 36), none, []⟩,
    ⟨(some 38), .mov (.t 8), none, []⟩,
    ⟨(some 39), .nilck (.t 38), none, []⟩,
    ⟨(some 40), .faddr 0 (.t 39), none, []⟩,
    ⟨(some 41), .load none (.t 40), none, []⟩,
    ⟨(some 42), .len (.t 41), none, []⟩,
    ⟨(some 43), .sl 4 (.t 32) none (some (.t 37)) (some (.t 42)), none, []⟩,
    ⟨(some 44), .build [(.int .i64 0), (.sl 0 [] true), (.int .i64 0), (.int .i64 0)] [(0, 1, (.c (.int .i64 7)))], none, []⟩,
    ⟨(some 45), .buildRow true 4 1 [(.int .i64 0), (.sl 0 [] true), (.int .i64 0), (.int .i64 0)] [(0, (.t 44))], none, []⟩,
    ⟨(some 46), .append 4 48 (.t 43) (.t 45), none, []⟩,
    ⟨(some 4), .mov (.t 46), none, []⟩,
    ⟨(some 5), .mov (.c (.int .i64 0)), none, []⟩] [4, 5])
  .ret)))))))
def f10 : VFn := ⟨2, 47, f10_c, [.t 4, .t 5], true, []⟩
/- caliper/nfa.Size -/
def f11_c : VCode :=
  (.seq (.reg false [⟨(some 2), .box true 6 (.t 0), none, []⟩,
    ⟨(some 4), .mov (.c (.int .i64 0)), none, []⟩,
    ⟨(some 5), .mov (.c (.int .i64 0)), none, []⟩] [1, 2])
  (.seq (.seq (.reg false [⟨(some 7), .load (some 6) (.t 2), none, []⟩,
    ⟨(some 8), .call (.c (.func (.func 22) [] [])) [(.t 7)], none, []⟩,
    ⟨(some 6), .mov (.t 8), none, []⟩] [1, 2, 6])
  (.seq (.reg false [⟨(some 9), .mov (.t 6), none, []⟩,
    ⟨(some 10), .bin .neq (.t 9) (.c (.int .i64 0)), none, []⟩] [1, 2, 6, 10])
  (.cond (.t 10) (.seq (.reg false [⟨(some 11), .mov (.t 6), none, []⟩,
    ⟨(some 4), .mov (.c (.int .i64 0)), none, []⟩,
    ⟨(some 5), .mov (.t 11), none, []⟩] [4, 5])
  .ret) .skip)))
  (.seq (.seq (.reg false [⟨(some 12), .mov (.t 1), none, []⟩,
    ⟨(some 13), .bin .lss (.t 12) (.c (.int .i64 0)), none, []⟩] [1, 2, 13])
  (.cond (.t 13) (.seq (.reg false [⟨(some 4), .mov (.c (.int .i64 1)), none, []⟩,
    ⟨(some 5), .mov (.c (.int .i64 0)), none, []⟩] [4, 5])
  .ret) .skip))
  (.seq (.reg false [⟨(some 14), .mov (.t 1), none, []⟩,
    ⟨(some 15), .min [(.t 14), (.c (.int .i64 1099511627776))], none, []⟩,
    ⟨(some 1), .mov (.t 15), none, []⟩] [1, 2])
  (.seq (.reg false [⟨(some 16), .load (some 6) (.t 2), none, []⟩,
    ⟨(some 17), .mov (.t 1), none, []⟩,
    ⟨(some 18), .call (.c (.func (.func 23) [] [])) [(.t 16), (.t 17)], none, []⟩,
    ⟨(some 19), .bin .add (.t 18) (.c (.int .i64 1)), none, []⟩,
    ⟨(some 20), .mov (.t 1), none, []⟩,
    ⟨(some 21), .bin .add (.t 20) (.c (.int .i64 1)), none, []⟩,
    ⟨(some 22), .min [(.t 19), (.t 21)], none, []⟩,
    ⟨(some 4), .mov (.t 22), none, []⟩,
    ⟨(some 5), .mov (.c (.int .i64 0)), none, []⟩] [4, 5])
  .ret)))))
def f11 : VFn := ⟨2, 23, f11_c, [.t 4, .t 5], true, []⟩
/- caliper/caliperref09.Check -/
def f12_c : VCode :=
  (.seq (.reg false [⟨(some 1), .box true 6 (.t 0), none, []⟩,
    ⟨(some 2), .mov (.c (.int .i64 0)), none, []⟩] [1])
  (.seq (.seq (.reg false [⟨(some 3), .load (some 6) (.t 1), none, []⟩,
    ⟨(some 4), .call (.c (.func (.func 24) [] [])) [(.t 3), (.c (.int .i64 1000))], none, []⟩,
    ⟨(some 5), .un .not (.t 4), none, []⟩] [5])
  (.cond (.t 5) (.seq (.reg false [⟨(some 2), .mov (.c (.int .i64 91)), none, []⟩] [2])
  .ret) .skip))
  (.seq (.reg false [⟨(some 2), .mov (.c (.int .i64 0)), none, []⟩] [2])
  .ret)))
def f12 : VFn := ⟨1, 6, f12_c, [.t 2], true, []⟩
/- caliper/caliperref09.Levels -/
def f13_l0 : VCode :=
  (.seq (.seq (.reg false [⟨(some 5), .mov (.t 4), none, []⟩,
    ⟨(some 6), .faddr 5 (.t 1), none, []⟩,
    ⟨(some 7), .load none (.t 6), none, []⟩,
    ⟨(some 8), .len (.t 7), none, []⟩,
    ⟨(some 9), .bin .lss (.t 5) (.t 8), none, []⟩] [1, 3, 4, 9])
  (.cond (.t 9) .skip (.exit 0)))
  (.seq (.block 1 (.reg false [⟨(some 12), .mov (.t 3), none, []⟩,
    ⟨(some 13), .faddr 5 (.t 1), none, []⟩,
    ⟨(some 14), .load none (.t 13), none, []⟩,
    ⟨(some 15), .mov (.t 4), none, []⟩,
    ⟨(some 16), .iaddr 6 (.t 14) (.t 15), none, []⟩,
    ⟨(some 17), .load (some 6) (.t 16), none, []⟩,
    ⟨(some 18), .call (.c (.func (.func 13) [] [])) [(.t 17)], none, []⟩,
    ⟨(some 19), .max [(.t 12), (.t 18)], none, []⟩,
    ⟨(some 3), .mov (.t 19), none, []⟩] [1, 3, 4]))
  (.reg false [⟨(some 10), .mov (.t 4), none, []⟩,
    ⟨(some 11), .bin .add (.t 10) (.c (.int .i64 1)), none, []⟩,
    ⟨(some 4), .mov (.t 11), none, []⟩] [1, 3, 4])))
def f13_c : VCode :=
  (.seq (.reg false [⟨(some 1), .box true 6 (.t 0), none, []⟩,
    ⟨(some 2), .mov (.c (.int .i64 0)), none, []⟩] [1])
  (.seq (.reg false [⟨(some 3), .mov (.c (.int .i64 0)), none, []⟩] [1, 3])
  (.seq (.seq (.reg false [⟨(some 4), .mov (.c (.int .i64 0)), none, []⟩] [1, 3, 4])
  (.block 0 (.loop [1, 3, 4] f13_l0)))
  (.seq (.reg false [⟨(some 20), .mov (.t 3), none, []⟩,
    ⟨(some 21), .bin .add (.t 20) (.c (.int .i64 1)), none, []⟩,
    ⟨(some 2), .mov (.t 21), none, []⟩] [2])
  .ret))))
def f13 : VFn := ⟨1, 22, f13_c, [.t 2], true, []⟩
/- caliper/caliperref10.Same -/
def f14_l0 : VCode :=
  (.seq (.seq (.reg false [⟨(some 11), .mov (.t 5), none, []⟩,
    ⟨(some 12), .mov (.t 0), none, []⟩,
    ⟨(some 13), .len (.t 12), none, []⟩,
    ⟨(some 14), .bin .lss (.t 11) (.t 13), none, []⟩] [0, 1, 5, 14])
  (.cond (.t 14) .skip (.exit 0)))
  (.seq (.block 1 (.seq (.reg true [⟨(some 17), .mov (.t 0), none, []⟩,
    ⟨(some 18), .mov (.t 5), none, []⟩,
    ⟨(some 19), .iaddr 4 (.t 17) (.t 18), none, []⟩,
    ⟨(some 20), .faddr 0 (.t 19), none, []⟩,
    ⟨(some 21), .load none (.t 20), none, []⟩,
    ⟨(some 22), .mov (.t 1), none, []⟩,
    ⟨(some 23), .mov (.t 5), none, []⟩,
    ⟨(some 24), .iaddr 4 (.t 22) (.t 23), none, []⟩,
    ⟨(some 25), .faddr 0 (.t 24), none, []⟩,
    ⟨(some 26), .load none (.t 25), none, []⟩,
    ⟨(some 27), .bin .neq (.t 21) (.t 26), none, []⟩,
    ⟨(some 28), .mov (.t 27), none, []⟩,
    ⟨(some 29), .mov (.t 0), (some (28, false)), []⟩,
    ⟨(some 30), .mov (.t 5), (some (28, false)), []⟩,
    ⟨(some 31), .iaddr 4 (.t 29) (.t 30), (some (28, false)), []⟩,
    ⟨(some 32), .faddr 2 (.t 31), (some (28, false)), []⟩,
    ⟨(some 33), .load none (.t 32), (some (28, false)), []⟩,
    ⟨(some 34), .mov (.t 1), (some (28, false)), []⟩,
    ⟨(some 35), .mov (.t 5), (some (28, false)), []⟩,
    ⟨(some 36), .iaddr 4 (.t 34) (.t 35), (some (28, false)), []⟩,
    ⟨(some 37), .faddr 2 (.t 36), (some (28, false)), []⟩,
    ⟨(some 38), .load none (.t 37), (some (28, false)), []⟩,
    ⟨(some 39), .bin .neq (.t 33) (.t 38), (some (28, false)), []⟩,
    ⟨(some 40), .pick (.t 28) (.c (.bool true)) (.t 39), none, []⟩,
    ⟨(some 41), .mov (.t 40), none, []⟩,
    ⟨(some 42), .mov (.t 0), (some (41, false)), []⟩,
    ⟨(some 43), .mov (.t 5), (some (41, false)), []⟩,
    ⟨(some 44), .iaddr 4 (.t 42) (.t 43), (some (41, false)), []⟩,
    ⟨(some 45), .faddr 3 (.t 44), (some (41, false)), []⟩,
    ⟨(some 46), .load none (.t 45), (some (41, false)), []⟩,
    ⟨(some 47), .mov (.t 1), (some (41, false)), []⟩,
    ⟨(some 48), .mov (.t 5), (some (41, false)), []⟩,
    ⟨(some 49), .iaddr 4 (.t 47) (.t 48), (some (41, false)), []⟩,
    ⟨(some 50), .faddr 3 (.t 49), (some (41, false)), []⟩,
    ⟨(some 51), .load none (.t 50), (some (41, false)), []⟩,
    ⟨(some 52), .bin .neq (.t 46) (.t 51), (some (41, false)), []⟩,
    ⟨(some 53), .pick (.t 41) (.c (.bool true)) (.t 52), none, []⟩,
    ⟨(some 54), .mov (.t 53), none, []⟩,
    ⟨(some 55), .mov (.t 0), (some (54, false)), []⟩,
    ⟨(some 56), .mov (.t 5), (some (54, false)), []⟩,
    ⟨(some 57), .iaddr 4 (.t 55) (.t 56), (some (54, false)), []⟩,
    ⟨(some 58), .faddr 1 (.t 57), (some (54, false)), []⟩,
    ⟨(some 59), .load none (.t 58), (some (54, false)), []⟩,
    ⟨(some 60), .mov (.t 1), (some (54, false)), []⟩,
    ⟨(some 61), .mov (.t 5), (some (54, false)), []⟩,
    ⟨(some 62), .iaddr 4 (.t 60) (.t 61), (some (54, false)), []⟩,
    ⟨(some 63), .faddr 1 (.t 62), (some (54, false)), []⟩,
    ⟨(some 64), .load none (.t 63), (some (54, false)), []⟩,
    ⟨(some 65), .call (.c (.func (.func 18) [] [])) [(.t 59), (.t 64)], (some (54, false)), []⟩,
    ⟨(some 66), .un .not (.t 65), (some (54, false)), []⟩,
    ⟨(some 67), .pick (.t 54) (.c (.bool true)) (.t 66), none, []⟩] [0, 1, 5, 67])
  (.cond (.t 67) (.seq (.reg false [⟨(some 4), .mov (.c (.bool false)), none, []⟩] [4])
  .ret) .skip)))
  (.reg false [⟨(some 15), .mov (.t 5), none, []⟩,
    ⟨(some 16), .bin .add (.t 15) (.c (.int .i64 1)), none, []⟩,
    ⟨(some 5), .mov (.t 16), none, []⟩] [0, 1, 5])))
def f14_c : VCode :=
  (.seq (.reg false [⟨(some 4), .mov (.c (.bool false)), none, []⟩] [0, 1])
  (.seq (.seq (.reg false [⟨(some 6), .mov (.t 0), none, []⟩,
    ⟨(some 7), .len (.t 6), none, []⟩,
    ⟨(some 8), .mov (.t 1), none, []⟩,
    ⟨(some 9), .len (.t 8), none, []⟩,
    ⟨(some 10), .bin .neq (.t 7) (.t 9), none, []⟩] [0, 1, 10])
  (.cond (.t 10) (.seq (.reg false [⟨(some 4), .mov (.c (.bool false)), none, []⟩] [4])
  .ret) .skip))
  (.seq (.seq (.reg false [⟨(some 5), .mov (.c (.int .i64 0)), none, []⟩] [0, 1, 5])
  (.block 0 (.loop [0, 1, 5] f14_l0)))
  (.seq (.reg false [⟨(some 4), .mov (.c (.bool true)), none, []⟩] [4])
  .ret))))
def f14 : VFn := ⟨2, 68, f14_c, [.t 4], true, []⟩
/- slices.ContainsFunc[[]caliper/api.State,caliper/api.State] -/
def f15_c : VCode :=
  (.seq (.reg false [⟨(some 4), .mov (.c (.bool false)), none, []⟩] [0, 1])
  (.seq (.reg false [⟨(some 5), .mov (.t 0), none, []⟩,
    ⟨(some 6), .mov (.t 1), none, []⟩,
    ⟨(some 7), .call (.c (.func (.func 25) [] [])) [(.t 5), (.t 6)], none, []⟩,
    ⟨(some 8), .bin .geq (.t 7) (.c (.int .i64 0)), none, []⟩,
    ⟨(some 4), .mov (.t 8), none, []⟩] [4])
  .ret))
def f15 : VFn := ⟨2, 9, f15_c, [.t 4], true, []⟩
/- caliper/nfa.Check$1 -/
def f16_c : VCode :=
  (.seq (.reg false [⟨(some 2), .box true 4 (.t 0), none, []⟩,
    ⟨(some 3), .mov (.c (.bool false)), none, []⟩] [1, 2])
  (.seq (.reg false [⟨(some 4), .load (some 4) (.t 2), none, []⟩,
    ⟨(some 5), .load none (.t 1), none, []⟩,
    ⟨(some 6), .len (.t 5), none, []⟩,
    ⟨(some 7), .call (.c (.func (.func 17) [] [])) [(.t 4), (.t 6)], none, []⟩,
    ⟨(some 8), .un .not (.t 7), none, []⟩,
    ⟨(some 3), .mov (.t 8), none, []⟩] [3])
  .ret))
def f16 : VFn := ⟨2, 9, f16_c, [.t 3], true, []⟩
/- caliper/nfa.state -/
def f17_c : VCode :=
  (.seq (.reg false [⟨(some 2), .box true 4 (.t 0), none, []⟩,
    ⟨(some 3), .box false 1 (.t 1), none, []⟩,
    ⟨(some 4), .mov (.c (.bool false)), none, []⟩] [2, 3])
  (.seq (.seq (.reg false [⟨(some 6), .mkfunc (.func 26) [] [(.t 3)], none, []⟩,
    ⟨(some 5), .mov (.t 6), none, []⟩] [2, 5])
  (.frz 5))
  (.seq (.reg true [⟨(some 7), .faddr 0 (.t 2), none, []⟩,
    ⟨(some 8), .load none (.t 7), none, []⟩,
    ⟨(some 9), .bin .geq (.t 8) (.c (.int .i64 1)), none, []⟩,
    ⟨(some 10), .mov (.t 9), none, []⟩,
    ⟨(some 11), .faddr 0 (.t 2), (some (10, true)), []⟩,
    ⟨(some 12), .load none (.t 11), (some (10, true)), []⟩,
    ⟨(some 13), .bin .leq (.t 12) (.c (.int .i64 7)), (some (10, true)), []⟩,
    ⟨(some 14), .pick (.t 10) (.t 13) (.c (.bool false)), none, []⟩,
    ⟨(some 15), .mov (.t 14), none, []⟩,
    ⟨(some 16), .mov (.t 5), (some (15, true)), []⟩,
    ⟨(some 17), .faddr 2 (.t 2), (some (15, true)), []⟩,
    ⟨(some 18), .load none (.t 17), (some (15, true)), []⟩,
    ⟨(some 19), .faddr 0 (.t 2), (some (15, true)), []⟩,
    ⟨(some 20), .load none (.t 19), (some (15, true)), []⟩,
    ⟨(some 21), .bin .neq (.t 20) (.c (.int .i64 7)), (some (15, true)), []⟩,
    ⟨(some 22), .call (.t 16) [(.t 18), (.t 21)], (some (15, true)), []⟩,
    ⟨(some 23), .pick (.t 15) (.t 22) (.c (.bool false)), none, []⟩,
    ⟨(some 24), .mov (.t 23), none, []⟩,
    ⟨(some 25), .mov (.t 5), (some (24, true)), []⟩,
    ⟨(some 26), .faddr 3 (.t 2), (some (24, true)), []⟩,
    ⟨(some 27), .load none (.t 26), (some (24, true)), []⟩,
    ⟨(some 28), .faddr 0 (.t 2), (some (24, true)), []⟩,
    ⟨(some 29), .load none (.t 28), (some (24, true)), []⟩,
    ⟨(some 30), .bin .eql (.t 29) (.c (.int .i64 2)), (some (24, true)), []⟩,
    ⟨(some 31), .call (.t 25) [(.t 27), (.t 30)], (some (24, true)), []⟩,
    ⟨(some 32), .pick (.t 24) (.t 31) (.c (.bool false)), none, []⟩,
    ⟨(some 33), .mov (.t 32), none, []⟩,
    ⟨(some 34), .faddr 0 (.t 2), (some (33, true)), []⟩,
    ⟨(some 35), .load none (.t 34), (some (33, true)), []⟩,
    ⟨(some 36), .bin .eql (.t 35) (.c (.int .i64 1)), (some (33, true)), []⟩,
    ⟨(some 37), .mov (.t 36), (some (33, true)), []⟩,
    ⟨(some 38), .faddr 1 (.t 2), (some (37, false)), []⟩,
    ⟨(some 39), .load none (.t 38), (some (37, false)), []⟩,
    ⟨(some 40), .len (.t 39), (some (37, false)), []⟩,
    ⟨(some 41), .bin .eql (.t 40) (.c (.int .i64 0)), (some (37, false)), []⟩,
    ⟨(some 42), .pick (.t 37) (.c (.bool true)) (.t 41), (some (33, true)), []⟩,
    ⟨(some 43), .pick (.t 33) (.t 42) (.c (.bool false)), none, []⟩,
    ⟨(some 44), .mov (.t 43), none, []⟩,
    ⟨(some 45), .faddr 1 (.t 2), (some (44, true)), []⟩,
    ⟨(some 46), .load none (.t 45), (some (44, true)), []⟩,
    ⟨(some 47), .call (.c (.func (.func 28) [] [])) [(.t 46)], (some (44, true)), []⟩,
    ⟨(some 48), .faddr 1 (.t 2), (some (44, true)), []⟩,
    ⟨(some 49), .load none (.t 48), (some (44, true)), []⟩,
    ⟨(some 50), .call (.c (.func (.func 27) [] [])) [(.t 47), (.t 49)], (some (44, true)), []⟩,
    ⟨(some 51), .pick (.t 44) (.t 50) (.c (.bool false)), none, []⟩,
    ⟨(some 4), .mov (.t 51), none, []⟩] [4])
  .ret)))
def f17 : VFn := ⟨2, 52, f17_c, [.t 4], true, []⟩
/- caliper/caliperref09.Ranges -/
def f18_l0 : VCode :=
  (.seq (.seq (.reg false [⟨(some 11), .mov (.t 5), none, []⟩,
    ⟨(some 12), .mov (.t 0), none, []⟩,
    ⟨(some 13), .len (.t 12), none, []⟩,
    ⟨(some 14), .bin .lss (.t 11) (.t 13), none, []⟩] [0, 1, 5, 14])
  (.cond (.t 14) .skip (.exit 0)))
  (.seq (.block 1 (.seq (.reg true [⟨(some 17), .mov (.t 0), none, []⟩,
    ⟨(some 18), .mov (.t 5), none, []⟩,
    ⟨(some 19), .iaddr 2 (.t 17) (.t 18), none, []⟩,
    ⟨(some 20), .load (some 2) (.t 19), none, []⟩,
    ⟨(some 21), .mov (.t 1), none, []⟩,
    ⟨(some 22), .mov (.t 5), none, []⟩,
    ⟨(some 23), .iaddr 2 (.t 21) (.t 22), none, []⟩,
    ⟨(some 24), .load (some 2) (.t 23), none, []⟩,
    ⟨(some 25), .eqs true [.int, .int] (.t 20) (.t 24), none, []⟩] [0, 1, 5, 25])
  (.cond (.t 25) (.seq (.reg false [⟨(some 4), .mov (.c (.bool false)), none, []⟩] [4])
  .ret) .skip)))
  (.reg false [⟨(some 15), .mov (.t 5), none, []⟩,
    ⟨(some 16), .bin .add (.t 15) (.c (.int .i64 1)), none, []⟩,
    ⟨(some 5), .mov (.t 16), none, []⟩] [0, 1, 5])))
def f18_c : VCode :=
  (.seq (.reg false [⟨(some 4), .mov (.c (.bool false)), none, []⟩] [0, 1])
  (.seq (.seq (.reg false [⟨(some 6), .mov (.t 0), none, []⟩,
    ⟨(some 7), .len (.t 6), none, []⟩,
    ⟨(some 8), .mov (.t 1), none, []⟩,
    ⟨(some 9), .len (.t 8), none, []⟩,
    ⟨(some 10), .bin .neq (.t 7) (.t 9), none, []⟩] [0, 1, 10])
  (.cond (.t 10) (.seq (.reg false [⟨(some 4), .mov (.c (.bool false)), none, []⟩] [4])
  .ret) .skip))
  (.seq (.seq (.reg false [⟨(some 5), .mov (.c (.int .i64 0)), none, []⟩] [0, 1, 5])
  (.block 0 (.loop [0, 1, 5] f18_l0)))
  (.seq (.reg false [⟨(some 4), .mov (.c (.bool true)), none, []⟩] [4])
  .ret))))
def f18 : VFn := ⟨2, 26, f18_c, [.t 4], true, []⟩
/- caliper/caliperref09.Merge -/
def f19_l0 : VCode :=
  (.seq (.seq (.reg false [⟨(some 34), .mov (.t 8), none, []⟩,
    ⟨(some 35), .mov (.t 3), none, []⟩,
    ⟨(some 36), .len (.t 35), none, []⟩,
    ⟨(some 37), .bin .lss (.t 34) (.t 36), none, []⟩] [0, 3, 4, 5, 6, 7, 8, 37])
  (.cond (.t 37) .skip (.exit 2)))
  (.seq (.block 3 (.seq (.reg false [⟨(some 40), .mov (.t 3), none, []⟩,
    ⟨(some 41), .mov (.t 8), none, []⟩,
    ⟨(some 42), .iaddr 2 (.t 40) (.t 41), none, []⟩,
    ⟨(some 43), .load (some 2) (.t 42), none, []⟩,
    ⟨(some 9), .alloc true [(.int .i64 0), (.int .i64 0)], none, []⟩,
    ⟨none, .store true 2 (.t 9) (.t 43), none, []⟩] [0, 3, 4, 5, 6, 7, 8, 9])
  (.block 4 (.seq (.reg false [⟨(some 56), .faddr 1 (.t 9), none, []⟩,
    ⟨(some 57), .load none (.t 56), none, []⟩,
    ⟨(some 58), .bin .add (.t 57) (.c (.int .i64 1)), none, []⟩,
    ⟨(some 59), .faddr 0 (.t 5), none, []⟩,
    ⟨(some 60), .load none (.t 59), none, []⟩,
    ⟨(some 61), .bin .lss (.t 58) (.t 60), none, []⟩,
    ⟨(some 55), .mov (.t 61), none, []⟩] [0, 3, 4, 5, 6, 7, 8, 9, 55])
  (.cond (.t 55) (.reg false [⟨(some 62), .mov (.t 6), none, []⟩,
    ⟨(some 63), .load (some 2) (.t 9), none, []⟩,
    ⟨(some 64), .buildRow true 2 1 [(.int .i64 0), (.int .i64 0)] [(0, (.t 63))], none, []⟩,
    ⟨(some 65), .append 2 16 (.t 62) (.t 64), none, []⟩,
    ⟨(some 6), .mov (.t 65), none, []⟩] [0, 3, 4, 5, 6, 7, 8]) (.seq (.reg false [⟨(some 67), .faddr 1 (.t 5), none, []⟩,
    ⟨(some 68), .load none (.t 67), none, []⟩,
    ⟨(some 69), .bin .add (.t 68) (.c (.int .i64 1)), none, []⟩,
    ⟨(some 70), .faddr 0 (.t 9), none, []⟩,
    ⟨(some 71), .load none (.t 70), none, []⟩,
    ⟨(some 72), .bin .lss (.t 69) (.t 71), none, []⟩,
    ⟨(some 66), .mov (.t 72), none, []⟩] [0, 3, 4, 5, 6, 7, 8, 9, 66])
  (.cond (.t 66) (.seq (.seq (.reg false [⟨(some 73), .mov (.t 7), none, []⟩,
    ⟨(some 74), .un .not (.t 73), none, []⟩] [0, 3, 4, 5, 6, 7, 8, 9, 74])
  (.cond (.t 74) (.seq (.reg false [⟨(some 75), .mov (.t 6), none, []⟩,
    ⟨(some 76), .load (some 2) (.t 5), none, []⟩,
    ⟨(some 77), .buildRow true 2 1 [(.int .i64 0), (.int .i64 0)] [(0, (.t 76))], none, []⟩,
    ⟨(some 78), .append 2 16 (.t 75) (.t 77), none, []⟩,
    ⟨(some 6), .mov (.t 78), none, []⟩] [0, 3, 4, 5, 6, 8, 9])
  (.reg false [⟨(some 7), .mov (.c (.bool true)), none, []⟩] [0, 3, 4, 5, 6, 7, 8, 9])) .skip))
  (.reg false [⟨(some 79), .mov (.t 6), none, []⟩,
    ⟨(some 80), .load (some 2) (.t 9), none, []⟩,
    ⟨(some 81), .buildRow true 2 1 [(.int .i64 0), (.int .i64 0)] [(0, (.t 80))], none, []⟩,
    ⟨(some 82), .append 2 16 (.t 79) (.t 81), none, []⟩,
    ⟨(some 6), .mov (.t 82), none, []⟩] [0, 3, 4, 5, 6, 7, 8])) (.reg false [⟨(some 44), .faddr 0 (.t 5), none, []⟩,
    ⟨(some 45), .load none (.t 44), none, []⟩,
    ⟨(some 46), .faddr 0 (.t 9), none, []⟩,
    ⟨(some 47), .load none (.t 46), none, []⟩,
    ⟨(some 48), .min [(.t 45), (.t 47)], none, []⟩,
    ⟨(some 49), .faddr 1 (.t 5), none, []⟩,
    ⟨(some 50), .load none (.t 49), none, []⟩,
    ⟨(some 51), .faddr 1 (.t 9), none, []⟩,
    ⟨(some 52), .load none (.t 51), none, []⟩,
    ⟨(some 53), .max [(.t 50), (.t 52)], none, []⟩,
    ⟨(some 54), .build [(.int .i64 0), (.int .i64 0)] [(0, 1, (.t 48)), (1, 1, (.t 53))], none, []⟩,
    ⟨none, .store true 2 (.t 5) (.t 54), none, []⟩] [0, 3, 4, 5, 6, 7, 8]))))))))
  (.reg false [⟨(some 38), .mov (.t 8), none, []⟩,
    ⟨(some 39), .bin .add (.t 38) (.c (.int .i64 1)), none, []⟩,
    ⟨(some 8), .mov (.t 39), none, []⟩] [0, 3, 4, 5, 6, 7, 8])))
def f19_l1 : VCode :=
  (.seq (.seq (.reg false [⟨(some 10), .mov (.t 4), none, []⟩,
    ⟨(some 11), .mov (.t 0), none, []⟩,
    ⟨(some 12), .len (.t 11), none, []⟩,
    ⟨(some 13), .bin .lss (.t 10) (.t 12), none, []⟩] [0, 3, 4, 13])
  (.cond (.t 13) .skip (.exit 0)))
  (.seq (.block 1 (.seq (.reg true [⟨(some 16), .mov (.t 0), none, []⟩,
    ⟨(some 17), .mov (.t 4), none, []⟩,
    ⟨(some 18), .iaddr 2 (.t 16) (.t 17), none, []⟩,
    ⟨(some 19), .faddr 0 (.t 18), none, []⟩,
    ⟨(some 20), .load none (.t 19), none, []⟩,
    ⟨(some 21), .max [(.t 20), (.c (.int .i64 0))], none, []⟩,
    ⟨(some 22), .mov (.t 0), none, []⟩,
    ⟨(some 23), .mov (.t 4), none, []⟩,
    ⟨(some 24), .iaddr 2 (.t 22) (.t 23), none, []⟩,
    ⟨(some 25), .faddr 1 (.t 24), none, []⟩,
    ⟨(some 26), .load none (.t 25), none, []⟩,
    ⟨(some 27), .min [(.t 26), (.c (.int .i64 1114111))], none, []⟩,
    ⟨(some 28), .build [(.int .i64 0), (.int .i64 0)] [(0, 1, (.t 21)), (1, 1, (.t 27))], none, []⟩,
    ⟨(some 5), .alloc true [(.int .i64 0), (.int .i64 0)], none, []⟩,
    ⟨none, .store true 2 (.t 5) (.t 28), none, []⟩] [0, 3, 4, 5])
  (.seq (.seq (.reg false [⟨(some 29), .faddr 0 (.t 5), none, []⟩,
    ⟨(some 30), .load none (.t 29), none, []⟩,
    ⟨(some 31), .faddr 1 (.t 5), none, []⟩,
    ⟨(some 32), .load none (.t 31), none, []⟩,
    ⟨(some 33), .bin .gtr (.t 30) (.t 32), none, []⟩] [0, 3, 4, 5, 33])
  (.cond (.t 33) (.exit 1) .skip))
  (.seq (.reg false [⟨(some 6), .nilrow 2, none, []⟩] [0, 3, 4, 5, 6])
  (.seq (.reg false [⟨(some 7), .mov (.c (.bool false)), none, []⟩] [0, 3, 4, 5, 6, 7])
  (.seq (.seq (.reg false [⟨(some 8), .mov (.c (.int .i64 0)), none, []⟩] [0, 3, 4, 5, 6, 7, 8])
  (.block 2 (.loop [0, 3, 4, 5, 6, 7, 8] f19_l0)))
  (.seq (.seq (.reg false [⟨(some 83), .mov (.t 7), none, []⟩,
    ⟨(some 84), .un .not (.t 83), none, []⟩] [0, 4, 5, 6, 84])
  (.cond (.t 84) (.reg false [⟨(some 85), .mov (.t 6), none, []⟩,
    ⟨(some 86), .load (some 2) (.t 5), none, []⟩,
    ⟨(some 87), .buildRow true 2 1 [(.int .i64 0), (.int .i64 0)] [(0, (.t 86))], none, []⟩,
    ⟨(some 88), .append 2 16 (.t 85) (.t 87), none, []⟩,
    ⟨(some 6), .mov (.t 88), none, []⟩] [0, 4, 6]) .skip))
  (.reg false [⟨(some 89), .mov (.t 6), none, []⟩,
    ⟨(some 3), .mov (.t 89), none, []⟩] [0, 3, 4]))))))))
  (.reg false [⟨(some 14), .mov (.t 4), none, []⟩,
    ⟨(some 15), .bin .add (.t 14) (.c (.int .i64 1)), none, []⟩,
    ⟨(some 4), .mov (.t 15), none, []⟩] [0, 3, 4])))
def f19_c : VCode :=
  (.seq (.reg false [⟨(some 2), .nilrow 2, none, []⟩] [0])
  (.seq (.reg false [⟨(some 3), .nilrow 2, none, []⟩] [0, 3])
  (.seq (.seq (.reg false [⟨(some 4), .mov (.c (.int .i64 0)), none, []⟩] [0, 3, 4])
  (.block 0 (.loop [0, 3, 4] f19_l1)))
  (.seq (.reg false [⟨(some 90), .mov (.t 3), none, []⟩,
    ⟨(some 2), .mov (.t 90), none, []⟩] [2])
  .ret))))
def f19 : VFn := ⟨1, 91, f19_c, [.t 2], true, []⟩
/- caliper/caliperlaw10.letter -/
def f20_c : VCode :=
  (.seq (.reg false [⟨(some 2), .alloc true [(.int .i64 0), (.sl 0 [] true), (.int .i64 0), (.int .i64 0), (.bool false), (.sl 0 [] true)], none, []⟩] [0, 2])
  (.seq (.reg false [⟨(some 3), .mov (.t 0), none, []⟩,
    ⟨(some 4), .mov (.t 0), none, []⟩,
    ⟨(some 5), .build [(.int .i64 0), (.int .i64 0)] [(0, 1, (.t 3)), (1, 1, (.t 4))], none, []⟩,
    ⟨(some 6), .buildRow true 2 1 [(.int .i64 0), (.int .i64 0)] [(0, (.t 5))], none, []⟩,
    ⟨(some 7), .build [(.int .i64 0), (.sl 0 [] true), (.int .i64 0), (.int .i64 0), (.bool false), (.sl 0 [] true)] [(0, 1, (.c (.int .i64 2))), (1, 1, (.t 6))], none, []⟩,
    ⟨none, .store true 6 (.t 2) (.t 7), none, []⟩] [2])
  .ret))
def f20 : VFn := ⟨1, 8, f20_c, [.c 2 (some 6)], true, []⟩
/- (*caliper/nfa.builder).build -/
def f21_l0 : VCode :=
  (.seq (.reg false [⟨(some 48), .bin .lss (.t 47) (.t 46), none, []⟩] [0, 45, 46, 47, 48])
  (.seq (.cond (.t 48) .skip (.exit 1))
  (.seq (.block 2 (.seq (.reg false [⟨(some 49), .iaddr 6 (.t 45) (.t 47), none, []⟩,
    ⟨(some 50), .load (some 6) (.t 49), none, []⟩,
    ⟨(some 5), .alloc true [(.int .i64 0), (.sl 0 [] true), (.int .i64 0), (.int .i64 0), (.bool false), (.sl 0 [] true)], none, []⟩,
    ⟨none, .store true 6 (.t 5) (.t 50), none, []⟩] [0, 5, 45, 46, 47])
  (.reg false [⟨(some 51), .mov (.t 0), none, []⟩,
    ⟨(some 52), .load (some 6) (.t 5), none, []⟩,
    ⟨(some 53), .call (.c (.func (.func 21) [] [])) [(.t 51), (.t 52)], none, []⟩] [0, 45, 46, 47])))
  (.reg false [⟨(some 54), .bin .add (.t 47) (.c (.int .i64 1)), none, []⟩,
    ⟨(some 47), .mov (.t 54), none, []⟩] [0, 45, 46, 47]))))
def f21_l1 : VCode :=
  (.seq (.reg false [⟨(some 61), .bin .lss (.t 60) (.t 59), none, []⟩] [0, 3, 6, 58, 59, 60, 61])
  (.seq (.cond (.t 61) .skip (.exit 3))
  (.seq (.block 4 (.seq (.reg false [⟨(some 62), .mov (.t 60), none, []⟩,
    ⟨(some 63), .iaddr 6 (.t 58) (.t 60), none, []⟩,
    ⟨(some 64), .load (some 6) (.t 63), none, []⟩,
    ⟨(some 8), .alloc true [(.int .i64 0), (.sl 0 [] true), (.int .i64 0), (.int .i64 0), (.bool false), (.sl 0 [] true)], none, []⟩,
    ⟨(some 7), .mov (.t 62), none, []⟩,
    ⟨none, .store true 6 (.t 8) (.t 64), none, []⟩] [0, 3, 6, 7, 8, 58, 59, 60])
  (.seq (.seq (.reg false [⟨(some 65), .mov (.t 7), none, []⟩,
    ⟨(some 66), .faddr 5 (.t 3), none, []⟩,
    ⟨(some 67), .load none (.t 66), none, []⟩,
    ⟨(some 68), .len (.t 67), none, []⟩,
    ⟨(some 69), .bin .sub (.t 68) (.c (.int .i64 1)), none, []⟩,
    ⟨(some 70), .bin .eql (.t 65) (.t 69), none, []⟩] [0, 3, 6, 8, 58, 59, 60, 70])
  (.cond (.t 70) (.seq (.reg false [⟨(some 71), .mov (.t 0), none, []⟩,
    ⟨(some 72), .load (some 6) (.t 8), none, []⟩,
    ⟨(some 73), .call (.c (.func (.func 21) [] [])) [(.t 71), (.t 72)], none, []⟩] [0, 6])
  (.exit 3)) .skip))
  (.seq (.reg false [⟨(some 74), .mov (.t 0), none, []⟩,
    ⟨(some 75), .call (.c (.func (.func 31) [] [])) [(.t 74)], none, []⟩,
    ⟨(some 9), .mov (.t 75), none, []⟩] [0, 3, 6, 8, 9, 58, 59, 60])
  (.seq (.reg false [⟨(some 76), .mov (.t 0), none, []⟩,
    ⟨(some 77), .load (some 6) (.t 8), none, []⟩,
    ⟨(some 78), .call (.c (.func (.func 21) [] [])) [(.t 76), (.t 77)], none, []⟩] [0, 3, 6, 9, 58, 59, 60])
  (.seq (.reg false [⟨(some 79), .mov (.t 6), none, []⟩,
    ⟨(some 80), .mov (.t 0), none, []⟩,
    ⟨(some 81), .call (.c (.func (.func 32) [] [])) [(.t 80)], none, []⟩,
    ⟨(some 82), .buildRow false 1 1 [.nilf] [(0, (.t 81))], none, []⟩,
    ⟨(some 83), .append 1 8 (.t 79) (.t 82), none, []⟩,
    ⟨(some 6), .mov (.t 83), none, []⟩] [0, 3, 6, 9, 58, 59, 60])
  (.reg false [⟨(some 84), .mov (.t 9), none, []⟩,
    ⟨(some 85), .call (.t 84) [], none, []⟩] [0, 3, 6, 58, 59, 60])))))))
  (.reg false [⟨(some 86), .bin .add (.t 60) (.c (.int .i64 1)), none, []⟩,
    ⟨(some 60), .mov (.t 86), none, []⟩] [0, 3, 6, 58, 59, 60]))))
def f21_l2 : VCode :=
  (.seq (.reg false [⟨(some 90), .bin .lss (.t 89) (.t 88), none, []⟩] [0, 87, 88, 89, 90])
  (.seq (.cond (.t 90) .skip (.exit 5))
  (.seq (.block 6 (.seq (.reg false [⟨(some 91), .iaddr 1 (.t 87) (.t 89), none, []⟩,
    ⟨(some 92), .load none (.t 91), none, []⟩,
    ⟨(some 11), .mov (.t 92), none, []⟩] [0, 11, 87, 88, 89])
  (.reg false [⟨(some 93), .mov (.t 11), none, []⟩,
    ⟨(some 94), .mov (.t 0), none, []⟩,
    ⟨(some 95), .nilck (.t 94), none, []⟩,
    ⟨(some 96), .faddr 0 (.t 95), none, []⟩,
    ⟨(some 97), .load none (.t 96), none, []⟩,
    ⟨(some 98), .len (.t 97), none, []⟩,
    ⟨(some 99), .call (.t 93) [(.t 98)], none, []⟩] [0, 87, 88, 89])))
  (.reg false [⟨(some 100), .bin .add (.t 89) (.c (.int .i64 1)), none, []⟩,
    ⟨(some 89), .mov (.t 100), none, []⟩] [0, 87, 88, 89]))))
def f21_c : VCode :=
  (.seq (.reg false [⟨(some 3), .box true 6 (.t 1), none, []⟩] [0, 3])
  (.seq (.reg false [⟨(some 12), .faddr 0 (.t 3), none, []⟩,
    ⟨(some 13), .load none (.t 12), none, []⟩] [0, 3, 13])
  (.block 0 (.seq (.reg false [⟨(some 15), .bin .eql (.t 13) (.c (.int .i64 2)), none, []⟩,
    ⟨(some 14), .mov (.t 15), none, []⟩] [0, 3, 13, 14])
  (.cond (.t 14) (.reg false [⟨(some 16), .mov (.t 0), none, []⟩,
    ⟨(some 17), .faddr 1 (.t 3), none, []⟩,
    ⟨(some 18), .load none (.t 17), none, []⟩,
    ⟨(some 19), .call (.c (.func (.func 30) [] [])) [(.t 18)], none, []⟩,
    ⟨(some 20), .build [(.int .i64 0), (.sl 0 [] true), (.int .i64 0), (.int .i64 0)] [(0, 1, (.c (.int .i64 1))), (1, 1, (.t 19))], none, []⟩,
    ⟨(some 21), .call (.c (.func (.func 29) [] [])) [(.t 16), (.t 20)], none, []⟩] []) (.seq (.reg false [⟨(some 23), .bin .eql (.t 13) (.c (.int .i64 6)), none, []⟩,
    ⟨(some 22), .mov (.t 23), none, []⟩] [0, 3, 13, 22])
  (.cond (.t 22) (.reg false [⟨(some 24), .mov (.t 0), none, []⟩,
    ⟨(some 25), .build [(.int .i64 0), (.sl 0 [] true), (.int .i64 0), (.int .i64 0)] [(0, 1, (.c (.int .i64 3)))], none, []⟩,
    ⟨(some 26), .call (.c (.func (.func 29) [] [])) [(.t 24), (.t 25)], none, []⟩] []) (.seq (.reg false [⟨(some 28), .bin .eql (.t 13) (.c (.int .i64 7)), none, []⟩,
    ⟨(some 27), .mov (.t 28), none, []⟩] [0, 3, 13, 27])
  (.cond (.t 27) (.reg false [⟨(some 29), .mov (.t 0), none, []⟩,
    ⟨(some 30), .build [(.int .i64 0), (.sl 0 [] true), (.int .i64 0), (.int .i64 0)] [(0, 1, (.c (.int .i64 4)))], none, []⟩,
    ⟨(some 31), .call (.c (.func (.func 29) [] [])) [(.t 29), (.t 30)], none, []⟩] []) (.seq (.reg false [⟨(some 33), .bin .eql (.t 13) (.c (.int .i64 8)), none, []⟩,
    ⟨(some 32), .mov (.t 33), none, []⟩] [0, 3, 13, 32])
  (.cond (.t 32) (.reg false [⟨(some 34), .mov (.t 0), none, []⟩,
    ⟨(some 35), .build [(.int .i64 0), (.sl 0 [] true), (.int .i64 0), (.int .i64 0)] [(0, 1, (.c (.int .i64 5)))], none, []⟩,
    ⟨(some 36), .call (.c (.func (.func 29) [] [])) [(.t 34), (.t 35)], none, []⟩] []) (.seq (.reg false [⟨(some 38), .bin .eql (.t 13) (.c (.int .i64 9)), none, []⟩,
    ⟨(some 37), .mov (.t 38), none, []⟩] [0, 3, 13, 37])
  (.cond (.t 37) (.reg false [⟨(some 39), .mov (.t 0), none, []⟩,
    ⟨(some 40), .build [(.int .i64 0), (.sl 0 [] true), (.int .i64 0), (.int .i64 0)] [(0, 1, (.c (.int .i64 6)))], none, []⟩,
    ⟨(some 41), .call (.c (.func (.func 29) [] [])) [(.t 39), (.t 40)], none, []⟩] []) (.seq (.reg false [⟨(some 43), .bin .eql (.t 13) (.c (.int .i64 3)), none, []⟩,
    ⟨(some 42), .mov (.t 43), none, []⟩] [0, 3, 13, 42])
  (.cond (.t 42) (.seq (.reg false [⟨(some 44), .faddr 5 (.t 3), none, []⟩,
    ⟨(some 45), .load none (.t 44), none, []⟩,
    ⟨(some 46), .len (.t 45), none, []⟩,
    ⟨(some 47), .mov (.c (.int .i64 0)), none, []⟩] [0, 45, 46, 47])
  (.block 1 (.loop [0, 45, 46, 47] f21_l0))) (.seq (.reg false [⟨(some 56), .bin .eql (.t 13) (.c (.int .i64 4)), none, []⟩,
    ⟨(some 55), .mov (.t 56), none, []⟩] [0, 3, 13, 55])
  (.cond (.t 55) (.seq (.reg false [⟨(some 6), .nilrow 1, none, []⟩] [0, 3, 6])
  (.seq (.seq (.reg false [⟨(some 57), .faddr 5 (.t 3), none, []⟩,
    ⟨(some 58), .load none (.t 57), none, []⟩,
    ⟨(some 59), .len (.t 58), none, []⟩,
    ⟨(some 60), .mov (.c (.int .i64 0)), none, []⟩] [0, 3, 6, 58, 59, 60])
  (.block 3 (.loop [0, 3, 6, 58, 59, 60] f21_l1)))
  (.seq (.reg false [⟨(some 87), .mov (.t 6), none, []⟩,
    ⟨(some 88), .len (.t 87), none, []⟩,
    ⟨(some 89), .mov (.c (.int .i64 0)), none, []⟩] [0, 87, 88, 89])
  (.block 5 (.loop [0, 87, 88, 89] f21_l2))))) (.seq (.reg false [⟨(some 102), .bin .eql (.t 13) (.c (.int .i64 5)), none, []⟩,
    ⟨(some 101), .mov (.t 102), none, []⟩] [0, 3, 101])
  (.cond (.t 101) (.reg false [⟨(some 103), .mov (.t 0), none, []⟩,
    ⟨(some 104), .load (some 6) (.t 3), none, []⟩,
    ⟨(some 105), .call (.c (.func (.func 33) [] [])) [(.t 103), (.t 104)], none, []⟩] []) .skip)))))))))))))))))))
def f21 : VFn := ⟨2, 106, f21_c, [], true, []⟩
/- caliper/rx.Check -/
def f22_c : VCode :=
  (.seq (.reg false [⟨(some 1), .box true 6 (.t 0), none, []⟩,
    ⟨(some 2), .mov (.c (.int .i64 0)), none, []⟩] [1])
  (.seq (.seq (.reg false [⟨(some 3), .load (some 6) (.t 1), none, []⟩,
    ⟨(some 4), .call (.c (.func (.func 34) [] [])) [(.t 3), (.c (.int .i64 1000))], none, []⟩,
    ⟨(some 5), .un .not (.t 4), none, []⟩] [5])
  (.cond (.t 5) (.seq (.reg false [⟨(some 2), .mov (.c (.int .i64 91)), none, []⟩] [2])
  .ret) .skip))
  (.seq (.reg false [⟨(some 2), .mov (.c (.int .i64 0)), none, []⟩] [2])
  .ret)))
def f22 : VFn := ⟨1, 6, f22_c, [.t 2], true, []⟩
/- caliper/nfa.size -/
def f23_l0 : VCode :=
  (.seq (.reg false [⟨(some 12), .bin .lss (.t 11) (.t 10), none, []⟩] [1, 2, 5, 9, 10, 11, 12])
  (.seq (.cond (.t 12) .skip (.exit 0))
  (.seq (.block 1 (.seq (.reg false [⟨(some 13), .iaddr 6 (.t 9) (.t 11), none, []⟩,
    ⟨(some 14), .load (some 6) (.t 13), none, []⟩,
    ⟨(some 7), .alloc true [(.int .i64 0), (.sl 0 [] true), (.int .i64 0), (.int .i64 0), (.bool false), (.sl 0 [] true)], none, []⟩,
    ⟨none, .store true 6 (.t 7) (.t 14), none, []⟩] [1, 2, 5, 7, 9, 10, 11])
  (.reg false [⟨(some 15), .mov (.t 5), none, []⟩,
    ⟨(some 16), .load (some 6) (.t 7), none, []⟩,
    ⟨(some 17), .mov (.t 1), none, []⟩,
    ⟨(some 18), .call (.c (.func (.func 23) [] [])) [(.t 16), (.t 17)], none, []⟩,
    ⟨(some 19), .bin .add (.t 15) (.t 18), none, []⟩,
    ⟨(some 20), .mov (.t 1), none, []⟩,
    ⟨(some 21), .min [(.t 19), (.t 20)], none, []⟩,
    ⟨(some 5), .mov (.t 21), none, []⟩] [1, 2, 5, 9, 10, 11])))
  (.reg false [⟨(some 22), .bin .add (.t 11) (.c (.int .i64 1)), none, []⟩,
    ⟨(some 11), .mov (.t 22), none, []⟩] [1, 2, 5, 9, 10, 11]))))
def f23_c : VCode :=
  (.seq (.reg false [⟨(some 2), .box true 6 (.t 0), none, []⟩,
    ⟨(some 4), .mov (.c (.int .i64 0)), none, []⟩] [1, 2])
  (.seq (.reg false [⟨(some 5), .mov (.c (.int .i64 0)), none, []⟩] [1, 2, 5])
  (.seq (.seq (.reg false [⟨(some 8), .faddr 5 (.t 2), none, []⟩,
    ⟨(some 9), .load none (.t 8), none, []⟩,
    ⟨(some 10), .len (.t 9), none, []⟩,
    ⟨(some 11), .mov (.c (.int .i64 0)), none, []⟩] [1, 2, 5, 9, 10, 11])
  (.block 0 (.loop [1, 2, 5, 9, 10, 11] f23_l0)))
  (.seq (.seq (.reg false [⟨(some 23), .faddr 0 (.t 2), none, []⟩,
    ⟨(some 24), .load none (.t 23), none, []⟩] [1, 2, 5, 24])
  (.block 2 (.seq (.seq (.reg false [⟨(some 28), .bin .eql (.t 24) (.c (.int .i64 1)), none, []⟩,
    ⟨(some 27), .mov (.t 28), none, []⟩] [1, 2, 5, 24, 27])
  (.cond (.t 27) .skip (.reg false [⟨(some 29), .bin .eql (.t 24) (.c (.int .i64 3)), none, []⟩,
    ⟨(some 27), .mov (.t 29), none, []⟩] [1, 2, 5, 24, 27])))
  (.cond (.t 27) .skip (.seq (.reg false [⟨(some 31), .bin .eql (.t 24) (.c (.int .i64 4)), none, []⟩,
    ⟨(some 30), .mov (.t 31), none, []⟩] [1, 2, 5, 24, 30])
  (.cond (.t 30) (.reg false [⟨(some 32), .mov (.t 5), none, []⟩,
    ⟨(some 33), .faddr 5 (.t 2), none, []⟩,
    ⟨(some 34), .load none (.t 33), none, []⟩,
    ⟨(some 35), .len (.t 34), none, []⟩,
    ⟨(some 36), .bin .sub (.t 35) (.c (.int .i64 1)), none, []⟩,
    ⟨(some 37), .bin .mul (.c (.int .i64 2)) (.t 36), none, []⟩,
    ⟨(some 38), .bin .add (.t 32) (.t 37), none, []⟩,
    ⟨(some 5), .mov (.t 38), none, []⟩] [1, 5]) (.seq (.reg false [⟨(some 40), .bin .eql (.t 24) (.c (.int .i64 5)), none, []⟩,
    ⟨(some 39), .mov (.t 40), none, []⟩] [1, 2, 5, 39])
  (.cond (.t 39) (.seq (.reg false [⟨(some 41), .faddr 3 (.t 2), none, []⟩,
    ⟨(some 42), .load none (.t 41), none, []⟩,
    ⟨(some 43), .bin .lss (.t 42) (.c (.int .i64 0)), none, []⟩] [1, 2, 5, 43])
  (.cond (.t 43) (.reg false [⟨(some 44), .faddr 2 (.t 2), none, []⟩,
    ⟨(some 45), .load none (.t 44), none, []⟩,
    ⟨(some 46), .mov (.t 5), none, []⟩,
    ⟨(some 47), .bin .mul (.t 45) (.t 46), none, []⟩,
    ⟨(some 48), .mov (.t 5), none, []⟩,
    ⟨(some 49), .bin .add (.t 47) (.t 48), none, []⟩,
    ⟨(some 50), .bin .add (.t 49) (.c (.int .i64 2)), none, []⟩,
    ⟨(some 5), .mov (.t 50), none, []⟩] [1, 5]) (.reg false [⟨(some 51), .faddr 2 (.t 2), none, []⟩,
    ⟨(some 52), .load none (.t 51), none, []⟩,
    ⟨(some 53), .mov (.t 5), none, []⟩,
    ⟨(some 54), .bin .mul (.t 52) (.t 53), none, []⟩,
    ⟨(some 55), .faddr 3 (.t 2), none, []⟩,
    ⟨(some 56), .load none (.t 55), none, []⟩,
    ⟨(some 57), .faddr 2 (.t 2), none, []⟩,
    ⟨(some 58), .load none (.t 57), none, []⟩,
    ⟨(some 59), .bin .sub (.t 56) (.t 58), none, []⟩,
    ⟨(some 60), .mov (.t 5), none, []⟩,
    ⟨(some 61), .bin .add (.t 60) (.c (.int .i64 1)), none, []⟩,
    ⟨(some 62), .bin .mul (.t 59) (.t 61), none, []⟩,
    ⟨(some 63), .bin .add (.t 54) (.t 62), none, []⟩,
    ⟨(some 5), .mov (.t 63), none, []⟩] [1, 5]))) (.reg false [⟨(some 25), .mov (.t 5), none, []⟩,
    ⟨(some 26), .bin .add (.t 25) (.c (.int .i64 1)), none, []⟩,
    ⟨(some 5), .mov (.t 26), none, []⟩] [1, 5])))))))))
  (.seq (.reg false [⟨(some 64), .mov (.t 5), none, []⟩,
    ⟨(some 65), .mov (.t 1), none, []⟩,
    ⟨(some 66), .min [(.t 64), (.t 65)], none, []⟩,
    ⟨(some 4), .mov (.t 66), none, []⟩] [4])
  .ret)))))
def f23 : VFn := ⟨2, 67, f23_c, [.t 4], true, []⟩
/- caliper/caliperref09.right -/
def f24_l0 : VCode :=
  (.seq (.seq (.reg false [⟨(some 100), .mov (.t 6), none, []⟩,
    ⟨(some 101), .mov (.t 5), none, []⟩,
    ⟨(some 102), .bin .lss (.t 100) (.t 101), none, []⟩] [1, 2, 5, 6, 102])
  (.cond (.t 102) .skip (.exit 1)))
  (.seq (.block 2 (.seq (.reg false [⟨(some 105), .faddr 5 (.t 2), none, []⟩,
    ⟨(some 106), .load none (.t 105), none, []⟩,
    ⟨(some 107), .mov (.t 6), none, []⟩,
    ⟨(some 108), .iaddr 6 (.t 106) (.t 107), none, []⟩,
    ⟨(some 109), .load (some 6) (.t 108), none, []⟩,
    ⟨(some 110), .mov (.t 1), none, []⟩,
    ⟨(some 111), .bin .sub (.t 110) (.c (.int .i64 1)), none, []⟩,
    ⟨(some 112), .call (.c (.func (.func 24) [] [])) [(.t 109), (.t 111)], none, []⟩,
    ⟨(some 113), .un .not (.t 112), none, []⟩] [1, 2, 5, 6, 113])
  (.cond (.t 113) (.seq (.reg false [⟨(some 4), .mov (.c (.bool false)), none, []⟩] [4])
  .ret) .skip)))
  (.reg false [⟨(some 103), .mov (.t 6), none, []⟩,
    ⟨(some 104), .bin .add (.t 103) (.c (.int .i64 1)), none, []⟩,
    ⟨(some 6), .mov (.t 104), none, []⟩] [1, 2, 5, 6])))
def f24_c : VCode :=
  (.seq (.reg false [⟨(some 2), .box true 6 (.t 0), none, []⟩,
    ⟨(some 4), .mov (.c (.bool false)), none, []⟩] [1, 2])
  (.seq (.seq (.reg false [⟨(some 7), .mov (.t 1), none, []⟩,
    ⟨(some 8), .bin .eql (.t 7) (.c (.int .i64 0)), none, []⟩,
    ⟨(some 9), .mov (.t 8), none, []⟩,
    ⟨(some 10), .faddr 0 (.t 2), (some (9, false)), []⟩,
    ⟨(some 11), .load none (.t 10), (some (9, false)), []⟩,
    ⟨(some 12), .bin .neq (.t 11) (.c (.int .i64 2)), (some (9, false)), []⟩,
    ⟨(some 13), .mov (.t 12), (some (9, false)), []⟩,
    ⟨(some 14), .faddr 1 (.t 2), (some (13, true)), []⟩,
    ⟨(some 15), .load none (.t 14), (some (13, true)), []⟩,
    ⟨(some 16), .len (.t 15), (some (13, true)), []⟩,
    ⟨(some 17), .bin .gtr (.t 16) (.c (.int .i64 0)), (some (13, true)), []⟩,
    ⟨(some 18), .pick (.t 13) (.t 17) (.c (.bool false)), (some (9, false)), []⟩,
    ⟨(some 19), .pick (.t 9) (.c (.bool true)) (.t 18), none, []⟩,
    ⟨(some 20), .mov (.t 19), none, []⟩,
    ⟨(some 21), .faddr 0 (.t 2), (some (20, false)), []⟩,
    ⟨(some 22), .load none (.t 21), (some (20, false)), []⟩,
    ⟨(some 23), .bin .neq (.t 22) (.c (.int .i64 5)), (some (20, false)), []⟩,
    ⟨(some 24), .mov (.t 23), (some (20, false)), []⟩,
    ⟨(some 25), .faddr 2 (.t 2), (some (24, true)), []⟩,
    ⟨(some 26), .load none (.t 25), (some (24, true)), []⟩,
    ⟨(some 27), .bin .neq (.t 26) (.c (.int .i64 0)), (some (24, true)), []⟩,
    ⟨(some 28), .mov (.t 27), (some (24, true)), []⟩,
    ⟨(some 29), .faddr 3 (.t 2), (some (28, false)), []⟩,
    ⟨(some 30), .load none (.t 29), (some (28, false)), []⟩,
    ⟨(some 31), .bin .neq (.t 30) (.c (.int .i64 0)), (some (28, false)), []⟩,
    ⟨(some 32), .pick (.t 28) (.c (.bool true)) (.t 31), (some (24, true)), []⟩,
    ⟨(some 33), .mov (.t 32), (some (24, true)), []⟩,
    ⟨(some 34), .faddr 4 (.t 2), (some (33, false)), []⟩,
    ⟨(some 35), .load none (.t 34), (some (33, false)), []⟩,
    ⟨(some 36), .pick (.t 33) (.c (.bool true)) (.t 35), (some (24, true)), []⟩,
    ⟨(some 37), .pick (.t 24) (.t 36) (.c (.bool false)), (some (20, false)), []⟩,
    ⟨(some 38), .pick (.t 20) (.c (.bool true)) (.t 37), none, []⟩,
    ⟨(some 39), .mov (.t 38), none, []⟩,
    ⟨(some 40), .faddr 1 (.t 2), (some (39, false)), []⟩,
    ⟨(some 41), .load none (.t 40), (some (39, false)), []⟩,
    ⟨(some 42), .call (.c (.func (.func 35) [] [])) [(.t 41)], (some (39, false)), []⟩,
    ⟨(some 43), .un .not (.t 42), (some (39, false)), []⟩,
    ⟨(some 44), .pick (.t 39) (.c (.bool true)) (.t 43), none, []⟩] [1, 2, 44])
  (.cond (.t 44) (.seq (.reg false [⟨(some 4), .mov (.c (.bool false)), none, []⟩] [4])
  .ret) .skip))
  (.seq (.reg false [⟨(some 45), .faddr 5 (.t 2), none, []⟩,
    ⟨(some 46), .load none (.t 45), none, []⟩,
    ⟨(some 47), .len (.t 46), none, []⟩,
    ⟨(some 5), .mov (.t 47), none, []⟩] [1, 2, 5])
  (.seq (.seq (.reg false [⟨(some 48), .faddr 0 (.t 2), none, []⟩,
    ⟨(some 49), .load none (.t 48), none, []⟩] [1, 2, 5, 49])
  (.block 0 (.seq (.seq (.reg false [⟨(some 51), .bin .eql (.t 49) (.c (.int .i64 3)), none, []⟩,
    ⟨(some 50), .mov (.t 51), none, []⟩] [1, 2, 5, 49, 50])
  (.cond (.t 50) .skip (.reg false [⟨(some 52), .bin .eql (.t 49) (.c (.int .i64 4)), none, []⟩,
    ⟨(some 50), .mov (.t 52), none, []⟩] [1, 2, 5, 49, 50])))
  (.cond (.t 50) (.seq (.reg false [⟨(some 53), .mov (.t 5), none, []⟩,
    ⟨(some 54), .bin .lss (.t 53) (.c (.int .i64 2)), none, []⟩] [1, 2, 5, 54])
  (.cond (.t 54) (.seq (.reg false [⟨(some 4), .mov (.c (.bool false)), none, []⟩] [4])
  .ret) .skip)) (.seq (.reg false [⟨(some 56), .bin .eql (.t 49) (.c (.int .i64 5)), none, []⟩,
    ⟨(some 55), .mov (.t 56), none, []⟩] [1, 2, 5, 49, 55])
  (.cond (.t 55) (.seq (.reg false [⟨(some 57), .mov (.t 5), none, []⟩,
    ⟨(some 58), .bin .neq (.t 57) (.c (.int .i64 1)), none, []⟩,
    ⟨(some 59), .mov (.t 58), none, []⟩,
    ⟨(some 60), .faddr 2 (.t 2), (some (59, false)), []⟩,
    ⟨(some 61), .load none (.t 60), (some (59, false)), []⟩,
    ⟨(some 62), .bin .lss (.t 61) (.c (.int .i64 0)), (some (59, false)), []⟩,
    ⟨(some 63), .pick (.t 59) (.c (.bool true)) (.t 62), none, []⟩,
    ⟨(some 64), .mov (.t 63), none, []⟩,
    ⟨(some 65), .faddr 2 (.t 2), (some (64, false)), []⟩,
    ⟨(some 66), .load none (.t 65), (some (64, false)), []⟩,
    ⟨(some 67), .bin .gtr (.t 66) (.c (.int .i64 1000)), (some (64, false)), []⟩,
    ⟨(some 68), .pick (.t 64) (.c (.bool true)) (.t 67), none, []⟩,
    ⟨(some 69), .mov (.t 68), none, []⟩,
    ⟨(some 70), .faddr 3 (.t 2), (some (69, false)), []⟩,
    ⟨(some 71), .load none (.t 70), (some (69, false)), []⟩,
    ⟨(some 72), .bin .lss (.t 71) (.c (.int .i64 (-1))), (some (69, false)), []⟩,
    ⟨(some 73), .pick (.t 69) (.c (.bool true)) (.t 72), none, []⟩,
    ⟨(some 74), .mov (.t 73), none, []⟩,
    ⟨(some 75), .faddr 3 (.t 2), (some (74, false)), []⟩,
    ⟨(some 76), .load none (.t 75), (some (74, false)), []⟩,
    ⟨(some 77), .bin .gtr (.t 76) (.c (.int .i64 1000)), (some (74, false)), []⟩,
    ⟨(some 78), .pick (.t 74) (.c (.bool true)) (.t 77), none, []⟩,
    ⟨(some 79), .mov (.t 78), none, []⟩,
    ⟨(some 80), .faddr 3 (.t 2), (some (79, false)), []⟩,
    ⟨(some 81), .load none (.t 80), (some (79, false)), []⟩,
    ⟨(some 82), .bin .geq (.t 81) (.c (.int .i64 0)), (some (79, false)), []⟩,
    ⟨(some 83), .mov (.t 82), (some (79, false)), []⟩,
    ⟨(some 84), .faddr 3 (.t 2), (some (83, true)), []⟩,
    ⟨(some 85), .load none (.t 84), (some (83, true)), []⟩,
    ⟨(some 86), .faddr 2 (.t 2), (some (83, true)), []⟩,
    ⟨(some 87), .load none (.t 86), (some (83, true)), []⟩,
    ⟨(some 88), .bin .lss (.t 85) (.t 87), (some (83, true)), []⟩,
    ⟨(some 89), .pick (.t 83) (.t 88) (.c (.bool false)), (some (79, false)), []⟩,
    ⟨(some 90), .pick (.t 79) (.c (.bool true)) (.t 89), none, []⟩] [1, 2, 5, 90])
  (.cond (.t 90) (.seq (.reg false [⟨(some 4), .mov (.c (.bool false)), none, []⟩] [4])
  .ret) .skip)) (.seq (.seq (.reg false [⟨(some 92), .bin .eql (.t 49) (.c (.int .i64 2)), none, []⟩,
    ⟨(some 91), .mov (.t 92), none, []⟩] [1, 2, 5, 49, 91])
  (.cond (.t 91) .skip (.seq (.reg false [⟨(some 93), .bin .eql (.t 49) (.c (.int .i64 1)), none, []⟩,
    ⟨(some 91), .mov (.t 93), none, []⟩] [1, 2, 5, 49, 91])
  (.cond (.t 91) .skip (.seq (.reg false [⟨(some 94), .bin .eql (.t 49) (.c (.int .i64 6)), none, []⟩,
    ⟨(some 91), .mov (.t 94), none, []⟩] [1, 2, 5, 49, 91])
  (.cond (.t 91) .skip (.seq (.reg false [⟨(some 95), .bin .eql (.t 49) (.c (.int .i64 7)), none, []⟩,
    ⟨(some 91), .mov (.t 95), none, []⟩] [1, 2, 5, 49, 91])
  (.cond (.t 91) .skip (.seq (.reg false [⟨(some 96), .bin .eql (.t 49) (.c (.int .i64 8)), none, []⟩,
    ⟨(some 91), .mov (.t 96), none, []⟩] [1, 2, 5, 49, 91])
  (.cond (.t 91) .skip (.reg false [⟨(some 97), .bin .eql (.t 49) (.c (.int .i64 9)), none, []⟩,
    ⟨(some 91), .mov (.t 97), none, []⟩] [1, 2, 5, 91])))))))))))
  (.cond (.t 91) (.seq (.reg false [⟨(some 98), .mov (.t 5), none, []⟩,
    ⟨(some 99), .bin .gtr (.t 98) (.c (.int .i64 0)), none, []⟩] [1, 2, 5, 99])
  (.cond (.t 99) (.seq (.reg false [⟨(some 4), .mov (.c (.bool false)), none, []⟩] [4])
  .ret) .skip)) (.seq (.reg false [⟨(some 4), .mov (.c (.bool false)), none, []⟩] [4])
  .ret)))))))))
  (.seq (.seq (.reg false [⟨(some 6), .mov (.c (.int .i64 0)), none, []⟩] [1, 2, 5, 6])
  (.block 1 (.loop [1, 2, 5, 6] f24_l0)))
  (.seq (.reg false [⟨(some 4), .mov (.c (.bool true)), none, []⟩] [4])
  .ret))))))
def f24 : VFn := ⟨2, 114, f24_c, [.t 4], true, []⟩
/- slices.IndexFunc[[]caliper/api.State,caliper/api.State] -/
def f25_l0 : VCode :=
  (.seq (.reg false [⟨(some 9), .bin .lss (.t 8) (.t 7), none, []⟩] [0, 1, 7, 8, 9])
  (.seq (.cond (.t 9) .skip (.exit 0))
  (.seq (.block 1 (.seq (.reg false [⟨(some 10), .mov (.t 8), none, []⟩,
    ⟨(some 5), .mov (.t 10), none, []⟩] [0, 1, 5, 7, 8])
  (.seq (.reg false [⟨(some 11), .mov (.t 1), none, []⟩,
    ⟨(some 12), .mov (.t 0), none, []⟩,
    ⟨(some 13), .mov (.t 5), none, []⟩,
    ⟨(some 14), .iaddr 4 (.t 12) (.t 13), none, []⟩,
    ⟨(some 15), .load (some 4) (.t 14), none, []⟩,
    ⟨(some 16), .call (.t 11) [(.t 15)], none, []⟩] [0, 1, 5, 7, 8, 16])
  (.cond (.t 16) (.seq (.reg false [⟨(some 17), .mov (.t 5), none, []⟩,
    ⟨(some 4), .mov (.t 17), none, []⟩] [4])
  .ret) .skip))))
  (.reg false [⟨(some 18), .bin .add (.t 8) (.c (.int .i64 1)), none, []⟩,
    ⟨(some 8), .mov (.t 18), none, []⟩] [0, 1, 7, 8]))))
def f25_c : VCode :=
  (.seq (.reg false [⟨(some 4), .mov (.c (.int .i64 0)), none, []⟩] [0, 1])
  (.seq (.seq (.reg false [⟨(some 6), .mov (.t 0), none, []⟩,
    ⟨(some 7), .len (.t 6), none, []⟩,
    ⟨(some 8), .mov (.c (.int .i64 0)), none, []⟩] [0, 1, 7, 8])
  (.block 0 (.loop [0, 1, 7, 8] f25_l0)))
  (.seq (.reg false [⟨(some 4), .mov (.c (.int .i64 (-1))), none, []⟩] [4])
  .ret)))
def f25 : VFn := ⟨2, 19, f25_c, [.t 4], true, []⟩
/- caliper/nfa.state$1 -/
def f26_c : VCode :=
  (.seq (.reg false [⟨(some 5), .mov (.c (.bool false)), none, []⟩] [0, 1, 2])
  (.seq (.reg false [⟨(some 6), .mov (.t 1), none, []⟩,
    ⟨(some 7), .mov (.t 6), none, []⟩,
    ⟨(some 8), .mov (.t 0), (some (7, true)), []⟩,
    ⟨(some 9), .bin .geq (.t 8) (.c (.int .i64 0)), (some (7, true)), []⟩,
    ⟨(some 10), .pick (.t 7) (.t 9) (.c (.bool false)), none, []⟩,
    ⟨(some 11), .mov (.t 10), none, []⟩,
    ⟨(some 12), .mov (.t 0), (some (11, true)), []⟩,
    ⟨(some 13), .load none (.t 2), (some (11, true)), []⟩,
    ⟨(some 14), .bin .lss (.t 12) (.t 13), (some (11, true)), []⟩,
    ⟨(some 15), .pick (.t 11) (.t 14) (.c (.bool false)), none, []⟩,
    ⟨(some 16), .mov (.t 15), none, []⟩,
    ⟨(some 17), .mov (.t 1), (some (16, false)), []⟩,
    ⟨(some 18), .un .not (.t 17), (some (16, false)), []⟩,
    ⟨(some 19), .mov (.t 18), (some (16, false)), []⟩,
    ⟨(some 20), .mov (.t 0), (some (19, true)), []⟩,
    ⟨(some 21), .bin .eql (.t 20) (.c (.int .i64 0)), (some (19, true)), []⟩,
    ⟨(some 22), .pick (.t 19) (.t 21) (.c (.bool false)), (some (16, false)), []⟩,
    ⟨(some 23), .pick (.t 16) (.c (.bool true)) (.t 22), none, []⟩,
    ⟨(some 5), .mov (.t 23), none, []⟩] [5])
  .ret))
def f26 : VFn := ⟨3, 24, f26_c, [.t 5], true, []⟩
/- slices.Equal[[]caliper/api.Range,caliper/api.Range] -/
def f27_l0 : VCode :=
  (.seq (.reg false [⟨(some 14), .bin .lss (.t 13) (.t 12), none, []⟩] [0, 1, 12, 13, 14])
  (.seq (.cond (.t 14) .skip (.exit 0))
  (.seq (.block 1 (.seq (.reg false [⟨(some 15), .mov (.t 13), none, []⟩,
    ⟨(some 5), .mov (.t 15), none, []⟩] [0, 1, 5, 12, 13])
  (.seq (.reg true [⟨(some 16), .mov (.t 0), none, []⟩,
    ⟨(some 17), .mov (.t 5), none, []⟩,
    ⟨(some 18), .iaddr 2 (.t 16) (.t 17), none, []⟩,
    ⟨(some 19), .load (some 2) (.t 18), none, []⟩,
    ⟨(some 20), .mov (.t 1), none, []⟩,
    ⟨(some 21), .mov (.t 5), none, []⟩,
    ⟨(some 22), .iaddr 2 (.t 20) (.t 21), none, []⟩,
    ⟨(some 23), .load (some 2) (.t 22), none, []⟩,
    ⟨(some 24), .eqs true [.int, .int] (.t 19) (.t 23), none, []⟩] [0, 1, 12, 13, 24])
  (.cond (.t 24) (.seq (.reg false [⟨(some 4), .mov (.c (.bool false)), none, []⟩] [4])
  .ret) .skip))))
  (.reg false [⟨(some 25), .bin .add (.t 13) (.c (.int .i64 1)), none, []⟩,
    ⟨(some 13), .mov (.t 25), none, []⟩] [0, 1, 12, 13]))))
def f27_c : VCode :=
  (.seq (.reg false [⟨(some 4), .mov (.c (.bool false)), none, []⟩] [0, 1])
  (.seq (.seq (.reg false [⟨(some 6), .mov (.t 0), none, []⟩,
    ⟨(some 7), .len (.t 6), none, []⟩,
    ⟨(some 8), .mov (.t 1), none, []⟩,
    ⟨(some 9), .len (.t 8), none, []⟩,
    ⟨(some 10), .bin .neq (.t 7) (.t 9), none, []⟩] [0, 1, 10])
  (.cond (.t 10) (.seq (.reg false [⟨(some 4), .mov (.c (.bool false)), none, []⟩] [4])
  .ret) .skip))
  (.seq (.seq (.reg false [⟨(some 11), .mov (.t 0), none, []⟩,
    ⟨(some 12), .len (.t 11), none, []⟩,
    ⟨(some 13), .mov (.c (.int .i64 0)), none, []⟩] [0, 1, 12, 13])
  (.block 0 (.loop [0, 1, 12, 13] f27_l0)))
  (.seq (.reg false [⟨(some 4), .mov (.c (.bool true)), none, []⟩] [4])
  .ret))))
def f27 : VFn := ⟨2, 26, f27_c, [.t 4], true, []⟩
/- caliper/rx.Merge -/
def f28_l0 : VCode :=
  (.seq (.reg false [⟨(some 13), .bin .lss (.t 12) (.t 11), none, []⟩] [3, 10, 11, 12, 13])
  (.seq (.cond (.t 13) .skip (.exit 0))
  (.seq (.block 1 (.seq (.reg false [⟨(some 14), .iaddr 2 (.t 10) (.t 12), none, []⟩,
    ⟨(some 15), .load (some 2) (.t 14), none, []⟩,
    ⟨(some 5), .alloc true [(.int .i64 0), (.int .i64 0)], none, []⟩,
    ⟨none, .store true 2 (.t 5) (.t 15), none, []⟩] [3, 5, 10, 11, 12])
  (.seq (.reg false [⟨(some 16), .faddr 0 (.t 5), none, []⟩,
    ⟨(some 17), .load none (.t 16), none, []⟩,
    ⟨(some 18), .max [(.t 17), (.c (.int .i64 0))], none, []⟩,
    ⟨(some 19), .faddr 1 (.t 5), none, []⟩,
    ⟨(some 20), .load none (.t 19), none, []⟩,
    ⟨(some 21), .min [(.t 20), (.c (.int .i64 1114111))], none, []⟩,
    ⟨(some 22), .faddr 0 (.t 5), none, []⟩,
    ⟨none, .store false 1 (.t 22) (.t 18), none, []⟩,
    ⟨(some 23), .faddr 1 (.t 5), none, []⟩,
    ⟨none, .store false 1 (.t 23) (.t 21), none, []⟩] [3, 5, 10, 11, 12])
  (.seq (.reg false [⟨(some 24), .faddr 0 (.t 5), none, []⟩,
    ⟨(some 25), .load none (.t 24), none, []⟩,
    ⟨(some 26), .faddr 1 (.t 5), none, []⟩,
    ⟨(some 27), .load none (.t 26), none, []⟩,
    ⟨(some 28), .bin .leq (.t 25) (.t 27), none, []⟩] [3, 5, 10, 11, 12, 28])
  (.cond (.t 28) (.reg false [⟨(some 29), .mov (.t 3), none, []⟩,
    ⟨(some 30), .load (some 2) (.t 5), none, []⟩,
    ⟨(some 31), .buildRow true 2 1 [(.int .i64 0), (.int .i64 0)] [(0, (.t 30))], none, []⟩,
    ⟨(some 32), .append 2 16 (.t 29) (.t 31), none, []⟩,
    ⟨(some 3), .mov (.t 32), none, []⟩] [3, 10, 11, 12]) .skip)))))
  (.reg false [⟨(some 33), .bin .add (.t 12) (.c (.int .i64 1)), none, []⟩,
    ⟨(some 12), .mov (.t 33), none, []⟩] [3, 10, 11, 12]))))
def f28_l1 : VCode :=
  (.seq (.reg false [⟨(some 39), .bin .lss (.t 38) (.t 37), none, []⟩] [6, 36, 37, 38, 39])
  (.seq (.cond (.t 39) .skip (.exit 2))
  (.seq (.block 3 (.seq (.reg false [⟨(some 40), .iaddr 2 (.t 36) (.t 38), none, []⟩,
    ⟨(some 41), .load (some 2) (.t 40), none, []⟩,
    ⟨(some 8), .alloc true [(.int .i64 0), (.int .i64 0)], none, []⟩,
    ⟨none, .store true 2 (.t 8) (.t 41), none, []⟩] [6, 8, 36, 37, 38])
  (.seq (.seq (.reg false [⟨(some 42), .mov (.t 6), none, []⟩,
    ⟨(some 43), .len (.t 42), none, []⟩,
    ⟨(some 9), .mov (.t 43), none, []⟩] [6, 8, 9, 36, 37, 38])
  (.seq (.reg true [⟨(some 44), .mov (.t 9), none, []⟩,
    ⟨(some 45), .bin .gtr (.t 44) (.c (.int .i64 0)), none, []⟩,
    ⟨(some 46), .mov (.t 45), none, []⟩,
    ⟨(some 47), .faddr 0 (.t 8), (some (46, true)), []⟩,
    ⟨(some 48), .load none (.t 47), (some (46, true)), []⟩,
    ⟨(some 49), .mov (.t 6), (some (46, true)), []⟩,
    ⟨(some 50), .mov (.t 9), (some (46, true)), []⟩,
    ⟨(some 51), .bin .sub (.t 50) (.c (.int .i64 1)), (some (46, true)), []⟩,
    ⟨(some 52), .iaddr 2 (.t 49) (.t 51), (some (46, true)), []⟩,
    ⟨(some 53), .faddr 1 (.t 52), (some (46, true)), []⟩,
    ⟨(some 54), .load none (.t 53), (some (46, true)), []⟩,
    ⟨(some 55), .bin .add (.t 54) (.c (.int .i64 1)), (some (46, true)), []⟩,
    ⟨(some 56), .bin .leq (.t 48) (.t 55), (some (46, true)), []⟩,
    ⟨(some 57), .pick (.t 46) (.t 56) (.c (.bool false)), none, []⟩] [6, 8, 9, 36, 37, 38, 57])
  (.cond (.t 57) (.seq (.reg true [⟨(some 58), .mov (.t 6), none, []⟩,
    ⟨(some 59), .mov (.t 9), none, []⟩,
    ⟨(some 60), .bin .sub (.t 59) (.c (.int .i64 1)), none, []⟩,
    ⟨(some 61), .mov (.t 6), none, []⟩,
    ⟨(some 62), .mov (.t 9), none, []⟩,
    ⟨(some 63), .bin .sub (.t 62) (.c (.int .i64 1)), none, []⟩,
    ⟨(some 64), .iaddr 2 (.t 61) (.t 63), none, []⟩,
    ⟨(some 65), .faddr 1 (.t 64), none, []⟩,
    ⟨(some 66), .load none (.t 65), none, []⟩,
    ⟨(some 67), .faddr 1 (.t 8), none, []⟩,
    ⟨(some 68), .load none (.t 67), none, []⟩,
    ⟨(some 69), .max [(.t 66), (.t 68)], none, []⟩,
    ⟨(some 70), .iaddr 2 (.t 58) (.t 60), none, []⟩,
    ⟨(some 71), .faddr 1 (.t 70), none, []⟩,
    ⟨none, .store false 1 (.t 71) (.t 69), none, []⟩] [6, 36, 37, 38])
  (.exit 3)) .skip)))
  (.reg false [⟨(some 72), .mov (.t 6), none, []⟩,
    ⟨(some 73), .load (some 2) (.t 8), none, []⟩,
    ⟨(some 74), .buildRow true 2 1 [(.int .i64 0), (.int .i64 0)] [(0, (.t 73))], none, []⟩,
    ⟨(some 75), .append 2 16 (.t 72) (.t 74), none, []⟩,
    ⟨(some 6), .mov (.t 75), none, []⟩] [6, 36, 37, 38]))))
  (.reg false [⟨(some 76), .bin .add (.t 38) (.c (.int .i64 1)), none, []⟩,
    ⟨(some 38), .mov (.t 76), none, []⟩] [6, 36, 37, 38]))))
def f28_c : VCode :=
  (.seq (.reg false [⟨(some 2), .nilrow 2, none, []⟩] [0])
  (.seq (.reg false [⟨(some 3), .nilrow 2, none, []⟩] [0, 3])
  (.seq (.seq (.reg false [⟨(some 10), .mov (.t 0), none, []⟩,
    ⟨(some 11), .len (.t 10), none, []⟩,
    ⟨(some 12), .mov (.c (.int .i64 0)), none, []⟩] [3, 10, 11, 12])
  (.block 0 (.loop [3, 10, 11, 12] f28_l0)))
  (.seq (.reg false [⟨(some 34), .mov (.t 3), none, []⟩,
    ⟨(some 35), .call (.c (.func (.func 36) [] [])) [(.t 34), (.c (.func (.func 37) [] []))], none, []⟩] [3])
  (.seq (.reg false [⟨(some 6), .nilrow 2, none, []⟩] [3, 6])
  (.seq (.seq (.reg false [⟨(some 36), .mov (.t 3), none, []⟩,
    ⟨(some 37), .len (.t 36), none, []⟩,
    ⟨(some 38), .mov (.c (.int .i64 0)), none, []⟩] [6, 36, 37, 38])
  (.block 2 (.loop [6, 36, 37, 38] f28_l1)))
  (.seq (.reg false [⟨(some 77), .mov (.t 6), none, []⟩,
    ⟨(some 2), .mov (.t 77), none, []⟩] [2])
  .ret)))))))
def f28 : VFn := ⟨1, 78, f28_c, [.t 2], true, []⟩
/- (*caliper/nfa.builder).put -/
def f29_c : VCode :=
  (.seq (.reg false [⟨(some 3), .box true 4 (.t 1), none, []⟩,
    ⟨(some 4), .mov (.c (.int .i64 0)), none, []⟩] [0, 3])
  (.seq (.reg false [⟨(some 6), .mov (.t 0), none, []⟩,
    ⟨(some 7), .nilck (.t 6), none, []⟩,
    ⟨(some 8), .faddr 0 (.t 7), none, []⟩,
    ⟨(some 9), .load none (.t 8), none, []⟩,
    ⟨(some 10), .len (.t 9), none, []⟩,
    ⟨(some 5), .mov (.t 10), none, []⟩] [0, 3, 5])
  (.seq (.reg false [⟨(some 11), .mov (.t 5), none, []⟩,
    ⟨(some 12), .bin .add (.t 11) (.c (.int .i64 1)), none, []⟩,
    ⟨(some 13), .faddr 2 (.t 3), none, []⟩,
    ⟨none, .store false 1 (.t 13) (.t 12), none, []⟩] [0, 3, 5])
  (.seq (.reg true [⟨(some 14), .mov (.t 0), none, []⟩,
    ⟨(some 15), .mov (.t 0), none, []⟩,
    ⟨(some 16), .nilck (.t 15), none, []⟩,
    ⟨(some 17), .faddr 0 (.t 16), none, []⟩,
    ⟨(some 18), .load none (.t 17), none, []⟩,
    ⟨(some 19), .load (some 4) (.t 3), none, []⟩,
    ⟨(some 20), .buildRow true 4 1 [(.int .i64 0), (.sl 0 [] true), (.int .i64 0), (.int .i64 0)] [(0, (.t 19))], none, []⟩,
    ⟨(some 21), .append 4 48 (.t 18) (.t 20), none, []⟩,
    ⟨(some 22), .nilck (.t 14), none, []⟩,
    ⟨(some 23), .faddr 0 (.t 22), none, []⟩,
    ⟨none, .store false 1 (.t 23) (.t 21), none, []⟩] [5])
  (.seq (.reg false [⟨(some 24), .mov (.t 5), none, []⟩,
    ⟨(some 4), .mov (.t 24), none, []⟩] [4])
  .ret)))))
def f29 : VFn := ⟨2, 25, f29_c, [.t 4], true, []⟩
/- slices.Clone[[]caliper/api.Range,caliper/api.Range] -/
def f30_c : VCode :=
  (.seq (.reg false [⟨(some 2), .nilrow 2, none, []⟩] [0])
  (.seq (.seq (.reg false [⟨(some 3), .mov (.t 0), none, []⟩,
    ⟨(some 4), .isnil .slice false (.t 3), none, []⟩] [0, 4])
  (.cond (.t 4) (.seq (.reg false [⟨(some 2), .nilrow 2, none, []⟩] [2])
  .ret) .skip))
  (.seq (.reg false [⟨(some 5), .buildRow true 2 0 [(.int .i64 0), (.int .i64 0)] [], none, []⟩,
    ⟨(some 6), .mov (.t 0), none, []⟩,
    ⟨(some 7), .append 2 16 (.t 5) (.t 6), none, []⟩,
    ⟨(some 2), .mov (.t 7), none, []⟩] [2])
  .ret)))
def f30 : VFn := ⟨1, 8, f30_c, [.t 2], true, []⟩
/- (*caliper/nfa.builder).fork -/
def f31_c : VCode :=
  (.seq (.seq (.reg false [⟨(some 1), .box false 1 (.t 0), none, []⟩,
    ⟨(some 2), .mov (.c .nilf), none, []⟩] [1])
  (.frz 1))
  (.seq (.seq (.reg false [⟨(some 4), .load none (.t 1), none, []⟩,
    ⟨(some 5), .build [(.int .i64 0), (.sl 0 [] true), (.int .i64 0), (.int .i64 0)] [(0, 1, (.c (.int .i64 2)))], none, []⟩,
    ⟨(some 6), .call (.c (.func (.func 29) [] [])) [(.t 4), (.t 5)], none, []⟩,
    ⟨(some 3), .alloc false [(.int .i64 0)], none, []⟩,
    ⟨none, .store false 1 (.t 3) (.t 6), none, []⟩] [1, 3])
  (.frz 3))
  (.seq (.reg false [⟨(some 7), .mkfunc (.func 39) [] [(.t 1), (.t 3)], none, []⟩,
    ⟨(some 2), .mov (.t 7), none, []⟩] [2])
  .ret)))
def f31 : VFn := ⟨1, 8, f31_c, [.t 2], false, []⟩
/- (*caliper/nfa.builder).jump -/
def f32_c : VCode :=
  (.seq (.seq (.reg false [⟨(some 1), .box false 1 (.t 0), none, []⟩,
    ⟨(some 2), .mov (.c .nilf), none, []⟩] [1])
  (.frz 1))
  (.seq (.seq (.reg false [⟨(some 4), .load none (.t 1), none, []⟩,
    ⟨(some 5), .build [(.int .i64 0), (.sl 0 [] true), (.int .i64 0), (.int .i64 0)] [(0, 1, (.c (.int .i64 2)))], none, []⟩,
    ⟨(some 6), .call (.c (.func (.func 29) [] [])) [(.t 4), (.t 5)], none, []⟩,
    ⟨(some 3), .alloc false [(.int .i64 0)], none, []⟩,
    ⟨none, .store false 1 (.t 3) (.t 6), none, []⟩] [1, 3])
  (.frz 3))
  (.seq (.reg false [⟨(some 7), .mkfunc (.func 40) [] [(.t 1), (.t 3)], none, []⟩,
    ⟨(some 2), .mov (.t 7), none, []⟩] [2])
  .ret)))
def f32 : VFn := ⟨1, 8, f32_c, [.t 2], false, []⟩
/- (*caliper/nfa.builder).repeat -/
def f33_l0 : VCode :=
  (.seq (.reg false [⟨(some 20), .bin .lss (.t 19) (.t 18), none, []⟩] [0, 3, 18, 19, 20])
  (.seq (.cond (.t 20) .skip (.exit 0))
  (.seq (.block 1 (.reg false [⟨(some 21), .mov (.t 0), none, []⟩,
    ⟨(some 22), .faddr 5 (.t 3), none, []⟩,
    ⟨(some 23), .load none (.t 22), none, []⟩,
    ⟨(some 24), .iaddr 6 (.t 23) (.c (.int .i64 0)), none, []⟩,
    ⟨(some 25), .load (some 6) (.t 24), none, []⟩,
    ⟨(some 26), .call (.c (.func (.func 21) [] [])) [(.t 21), (.t 25)], none, []⟩] [0, 3, 18, 19]))
  (.reg false [⟨(some 27), .bin .add (.t 19) (.c (.int .i64 1)), none, []⟩,
    ⟨(some 19), .mov (.t 27), none, []⟩] [0, 3, 18, 19]))))
def f33_l1 : VCode :=
  (.seq (.reg false [⟨(some 56), .bin .lss (.t 55) (.t 54), none, []⟩] [0, 3, 7, 54, 55, 56])
  (.seq (.cond (.t 56) .skip (.exit 2))
  (.seq (.block 3 (.seq (.reg false [⟨(some 57), .mov (.t 7), none, []⟩,
    ⟨(some 58), .mov (.t 0), none, []⟩,
    ⟨(some 59), .call (.c (.func (.func 31) [] [])) [(.t 58)], none, []⟩,
    ⟨(some 60), .buildRow false 1 1 [.nilf] [(0, (.t 59))], none, []⟩,
    ⟨(some 61), .append 1 8 (.t 57) (.t 60), none, []⟩,
    ⟨(some 7), .mov (.t 61), none, []⟩] [0, 3, 7, 54, 55])
  (.reg false [⟨(some 62), .mov (.t 0), none, []⟩,
    ⟨(some 63), .faddr 5 (.t 3), none, []⟩,
    ⟨(some 64), .load none (.t 63), none, []⟩,
    ⟨(some 65), .iaddr 6 (.t 64) (.c (.int .i64 0)), none, []⟩,
    ⟨(some 66), .load (some 6) (.t 65), none, []⟩,
    ⟨(some 67), .call (.c (.func (.func 21) [] [])) [(.t 62), (.t 66)], none, []⟩] [0, 3, 7, 54, 55])))
  (.reg false [⟨(some 68), .bin .add (.t 55) (.c (.int .i64 1)), none, []⟩,
    ⟨(some 55), .mov (.t 68), none, []⟩] [0, 3, 7, 54, 55]))))
def f33_l2 : VCode :=
  (.seq (.reg false [⟨(some 72), .bin .lss (.t 71) (.t 70), none, []⟩] [69, 70, 71, 72])
  (.seq (.cond (.t 72) .skip (.exit 4))
  (.seq (.block 5 (.seq (.reg false [⟨(some 73), .iaddr 1 (.t 69) (.t 71), none, []⟩,
    ⟨(some 74), .load none (.t 73), none, []⟩,
    ⟨(some 9), .mov (.t 74), none, []⟩] [9, 69, 70, 71])
  (.reg false [⟨(some 75), .mov (.t 9), none, []⟩,
    ⟨(some 76), .call (.t 75) [], none, []⟩] [69, 70, 71])))
  (.reg false [⟨(some 77), .bin .add (.t 71) (.c (.int .i64 1)), none, []⟩,
    ⟨(some 71), .mov (.t 77), none, []⟩] [69, 70, 71]))))
def f33_c : VCode :=
  (.seq (.reg false [⟨(some 3), .box true 6 (.t 1), none, []⟩] [0, 3])
  (.seq (.reg false [⟨(some 10), .faddr 2 (.t 3), none, []⟩,
    ⟨(some 11), .load none (.t 10), none, []⟩,
    ⟨(some 4), .mov (.t 11), none, []⟩] [0, 3, 4])
  (.seq (.seq (.reg false [⟨(some 12), .faddr 5 (.t 3), none, []⟩,
    ⟨(some 13), .load none (.t 12), none, []⟩,
    ⟨(some 14), .iaddr 6 (.t 13) (.c (.int .i64 0)), none, []⟩,
    ⟨(some 15), .load (some 6) (.t 14), none, []⟩,
    ⟨(some 16), .call (.c (.func (.func 23) [] [])) [(.t 15), (.c (.int .i64 1))], none, []⟩,
    ⟨(some 17), .bin .eql (.t 16) (.c (.int .i64 0)), none, []⟩] [0, 3, 4, 17])
  (.cond (.t 17) (.reg false [⟨(some 4), .mov (.c (.int .i64 0)), none, []⟩] [0, 3, 4]) .skip))
  (.seq (.seq (.reg false [⟨(some 18), .mov (.t 4), none, []⟩,
    ⟨(some 19), .mov (.c (.int .i64 0)), none, []⟩] [0, 3, 18, 19])
  (.block 0 (.loop [0, 3, 18, 19] f33_l0)))
  (.seq (.seq (.reg false [⟨(some 28), .faddr 3 (.t 3), none, []⟩,
    ⟨(some 29), .load none (.t 28), none, []⟩,
    ⟨(some 30), .bin .lss (.t 29) (.c (.int .i64 0)), none, []⟩] [0, 3, 30])
  (.cond (.t 30) (.seq (.reg false [⟨(some 31), .mov (.t 0), none, []⟩,
    ⟨(some 32), .nilck (.t 31), none, []⟩,
    ⟨(some 33), .faddr 0 (.t 32), none, []⟩,
    ⟨(some 34), .load none (.t 33), none, []⟩,
    ⟨(some 35), .len (.t 34), none, []⟩,
    ⟨(some 5), .mov (.t 35), none, []⟩] [0, 3, 5])
  (.seq (.reg false [⟨(some 36), .mov (.t 0), none, []⟩,
    ⟨(some 37), .call (.c (.func (.func 31) [] [])) [(.t 36)], none, []⟩,
    ⟨(some 6), .mov (.t 37), none, []⟩] [0, 3, 5, 6])
  (.seq (.reg false [⟨(some 38), .mov (.t 0), none, []⟩,
    ⟨(some 39), .faddr 5 (.t 3), none, []⟩,
    ⟨(some 40), .load none (.t 39), none, []⟩,
    ⟨(some 41), .iaddr 6 (.t 40) (.c (.int .i64 0)), none, []⟩,
    ⟨(some 42), .load (some 6) (.t 41), none, []⟩,
    ⟨(some 43), .call (.c (.func (.func 21) [] [])) [(.t 38), (.t 42)], none, []⟩] [0, 5, 6])
  (.seq (.reg false [⟨(some 44), .mov (.t 0), none, []⟩,
    ⟨(some 45), .call (.c (.func (.func 32) [] [])) [(.t 44)], none, []⟩,
    ⟨(some 46), .mov (.t 5), none, []⟩,
    ⟨(some 47), .call (.t 45) [(.t 46)], none, []⟩] [6])
  (.seq (.reg false [⟨(some 48), .mov (.t 6), none, []⟩,
    ⟨(some 49), .call (.t 48) [], none, []⟩] [])
  .ret))))) .skip))
  (.seq (.reg false [⟨(some 7), .nilrow 1, none, []⟩] [0, 3, 7])
  (.seq (.seq (.reg false [⟨(some 50), .faddr 3 (.t 3), none, []⟩,
    ⟨(some 51), .load none (.t 50), none, []⟩,
    ⟨(some 52), .faddr 2 (.t 3), none, []⟩,
    ⟨(some 53), .load none (.t 52), none, []⟩,
    ⟨(some 54), .bin .sub (.t 51) (.t 53), none, []⟩,
    ⟨(some 55), .mov (.c (.int .i64 0)), none, []⟩] [0, 3, 7, 54, 55])
  (.block 2 (.loop [0, 3, 7, 54, 55] f33_l1)))
  (.seq (.reg false [⟨(some 69), .mov (.t 7), none, []⟩,
    ⟨(some 70), .len (.t 69), none, []⟩,
    ⟨(some 71), .mov (.c (.int .i64 0)), none, []⟩] [69, 70, 71])
  (.block 4 (.loop [69, 70, 71] f33_l2))))))))))
def f33 : VFn := ⟨2, 78, f33_c, [], true, []⟩
/- caliper/rx.fits -/
def f34_c : VCode :=
  (.seq (.reg false [⟨(some 2), .box true 6 (.t 0), none, []⟩,
    ⟨(some 3), .box false 1 (.t 1), none, []⟩,
    ⟨(some 4), .mov (.c (.bool false)), none, []⟩] [2, 3])
  (.seq (.seq (.reg false [⟨(some 7), .load none (.t 3), none, []⟩,
    ⟨(some 8), .bin .eql (.t 7) (.c (.int .i64 0)), none, []⟩] [2, 3, 8])
  (.cond (.t 8) (.seq (.reg false [⟨(some 4), .mov (.c (.bool false)), none, []⟩] [4])
  .ret) .skip))
  (.seq (.reg false [⟨(some 9), .load (some 6) (.t 2), none, []⟩,
    ⟨(some 5), .alloc true [(.int .i64 0), (.sl 0 [] true), (.int .i64 0), (.int .i64 0), (.bool false), (.sl 0 [] true)], none, []⟩,
    ⟨none, .store true 6 (.t 5) (.t 9), none, []⟩] [2, 3, 5])
  (.seq (.reg false [⟨(some 10), .faddr 0 (.t 5), none, []⟩,
    ⟨none, .store false 1 (.t 10) (.c (.int .i64 0)), none, []⟩,
    ⟨(some 11), .faddr 5 (.t 5), none, []⟩,
    ⟨none, .store false 1 (.t 11) (.c (.sl 0 [] true)), none, []⟩] [2, 3, 5])
  (.seq (.reg false [⟨(some 12), .faddr 5 (.t 2), none, []⟩,
    ⟨(some 13), .load none (.t 12), none, []⟩,
    ⟨(some 14), .len (.t 13), none, []⟩,
    ⟨(some 6), .mov (.t 14), none, []⟩] [2, 3, 5, 6])
  (.seq (.seq (.reg false [⟨(some 15), .faddr 0 (.t 2), none, []⟩,
    ⟨(some 16), .load none (.t 15), none, []⟩] [2, 3, 5, 6, 16])
  (.block 0 (.seq (.seq (.reg false [⟨(some 18), .bin .eql (.t 16) (.c (.int .i64 1)), none, []⟩,
    ⟨(some 17), .mov (.t 18), none, []⟩] [2, 3, 5, 6, 16, 17])
  (.cond (.t 17) .skip (.seq (.reg false [⟨(some 19), .bin .eql (.t 16) (.c (.int .i64 6)), none, []⟩,
    ⟨(some 17), .mov (.t 19), none, []⟩] [2, 3, 5, 6, 16, 17])
  (.cond (.t 17) .skip (.seq (.reg false [⟨(some 20), .bin .eql (.t 16) (.c (.int .i64 7)), none, []⟩,
    ⟨(some 17), .mov (.t 20), none, []⟩] [2, 3, 5, 6, 16, 17])
  (.cond (.t 17) .skip (.seq (.reg false [⟨(some 21), .bin .eql (.t 16) (.c (.int .i64 8)), none, []⟩,
    ⟨(some 17), .mov (.t 21), none, []⟩] [2, 3, 5, 6, 16, 17])
  (.cond (.t 17) .skip (.reg false [⟨(some 22), .bin .eql (.t 16) (.c (.int .i64 9)), none, []⟩,
    ⟨(some 17), .mov (.t 22), none, []⟩] [2, 3, 5, 6, 16, 17])))))))))
  (.cond (.t 17) (.seq (.reg false [⟨(some 23), .mov (.t 6), none, []⟩,
    ⟨(some 24), .bin .gtr (.t 23) (.c (.int .i64 0)), none, []⟩] [2, 3, 5, 24])
  (.cond (.t 24) (.seq (.reg false [⟨(some 4), .mov (.c (.bool false)), none, []⟩] [4])
  .ret) .skip)) (.seq (.reg false [⟨(some 26), .bin .eql (.t 16) (.c (.int .i64 2)), none, []⟩,
    ⟨(some 25), .mov (.t 26), none, []⟩] [2, 3, 5, 6, 16, 25])
  (.cond (.t 25) (.seq (.seq (.reg false [⟨(some 27), .mov (.t 6), none, []⟩,
    ⟨(some 28), .bin .gtr (.t 27) (.c (.int .i64 0)), none, []⟩,
    ⟨(some 29), .mov (.t 28), none, []⟩,
    ⟨(some 30), .faddr 1 (.t 2), (some (29, false)), []⟩,
    ⟨(some 31), .load none (.t 30), (some (29, false)), []⟩,
    ⟨(some 32), .call (.c (.func (.func 41) [] [])) [(.t 31)], (some (29, false)), []⟩,
    ⟨(some 33), .un .not (.t 32), (some (29, false)), []⟩,
    ⟨(some 34), .pick (.t 29) (.c (.bool true)) (.t 33), none, []⟩] [2, 3, 5, 34])
  (.cond (.t 34) (.seq (.reg false [⟨(some 4), .mov (.c (.bool false)), none, []⟩] [4])
  .ret) .skip))
  (.reg false [⟨(some 35), .faddr 1 (.t 5), none, []⟩,
    ⟨none, .store false 1 (.t 35) (.c (.sl 0 [] true)), none, []⟩] [2, 3, 5])) (.seq (.seq (.reg false [⟨(some 37), .bin .eql (.t 16) (.c (.int .i64 3)), none, []⟩,
    ⟨(some 36), .mov (.t 37), none, []⟩] [2, 3, 5, 6, 16, 36])
  (.cond (.t 36) .skip (.reg false [⟨(some 38), .bin .eql (.t 16) (.c (.int .i64 4)), none, []⟩,
    ⟨(some 36), .mov (.t 38), none, []⟩] [2, 3, 5, 6, 16, 36])))
  (.cond (.t 36) (.seq (.reg false [⟨(some 39), .mov (.t 6), none, []⟩,
    ⟨(some 40), .bin .lss (.t 39) (.c (.int .i64 2)), none, []⟩] [2, 3, 5, 40])
  (.cond (.t 40) (.seq (.reg false [⟨(some 4), .mov (.c (.bool false)), none, []⟩] [4])
  .ret) .skip)) (.seq (.reg false [⟨(some 42), .bin .eql (.t 16) (.c (.int .i64 5)), none, []⟩,
    ⟨(some 41), .mov (.t 42), none, []⟩] [2, 3, 5, 6, 41])
  (.cond (.t 41) (.seq (.seq (.reg false [⟨(some 43), .mov (.t 6), none, []⟩,
    ⟨(some 44), .bin .neq (.t 43) (.c (.int .i64 1)), none, []⟩,
    ⟨(some 45), .mov (.t 44), none, []⟩,
    ⟨(some 46), .faddr 2 (.t 2), (some (45, false)), []⟩,
    ⟨(some 47), .load none (.t 46), (some (45, false)), []⟩,
    ⟨(some 48), .bin .lss (.t 47) (.c (.int .i64 0)), (some (45, false)), []⟩,
    ⟨(some 49), .pick (.t 45) (.c (.bool true)) (.t 48), none, []⟩,
    ⟨(some 50), .mov (.t 49), none, []⟩,
    ⟨(some 51), .faddr 2 (.t 2), (some (50, false)), []⟩,
    ⟨(some 52), .load none (.t 51), (some (50, false)), []⟩,
    ⟨(some 53), .bin .gtr (.t 52) (.c (.int .i64 1000)), (some (50, false)), []⟩,
    ⟨(some 54), .pick (.t 50) (.c (.bool true)) (.t 53), none, []⟩,
    ⟨(some 55), .mov (.t 54), none, []⟩,
    ⟨(some 56), .faddr 3 (.t 2), (some (55, false)), []⟩,
    ⟨(some 57), .load none (.t 56), (some (55, false)), []⟩,
    ⟨(some 58), .bin .lss (.t 57) (.c (.int .i64 (-1))), (some (55, false)), []⟩,
    ⟨(some 59), .pick (.t 55) (.c (.bool true)) (.t 58), none, []⟩,
    ⟨(some 60), .mov (.t 59), none, []⟩,
    ⟨(some 61), .faddr 3 (.t 2), (some (60, false)), []⟩,
    ⟨(some 62), .load none (.t 61), (some (60, false)), []⟩,
    ⟨(some 63), .bin .gtr (.t 62) (.c (.int .i64 1000)), (some (60, false)), []⟩,
    ⟨(some 64), .pick (.t 60) (.c (.bool true)) (.t 63), none, []⟩,
    ⟨(some 65), .mov (.t 64), none, []⟩,
    ⟨(some 66), .faddr 3 (.t 2), (some (65, false)), []⟩,
    ⟨(some 67), .load none (.t 66), (some (65, false)), []⟩,
    ⟨(some 68), .bin .geq (.t 67) (.c (.int .i64 0)), (some (65, false)), []⟩,
    ⟨(some 69), .mov (.t 68), (some (65, false)), []⟩,
    ⟨(some 70), .faddr 3 (.t 2), (some (69, true)), []⟩,
    ⟨(some 71), .load none (.t 70), (some (69, true)), []⟩,
    ⟨(some 72), .faddr 2 (.t 2), (some (69, true)), []⟩,
    ⟨(some 73), .load none (.t 72), (some (69, true)), []⟩,
    ⟨(some 74), .bin .lss (.t 71) (.t 73), (some (69, true)), []⟩,
    ⟨(some 75), .pick (.t 69) (.t 74) (.c (.bool false)), (some (65, false)), []⟩,
    ⟨(some 76), .pick (.t 65) (.c (.bool true)) (.t 75), none, []⟩] [2, 3, 5, 76])
  (.cond (.t 76) (.seq (.reg false [⟨(some 4), .mov (.c (.bool false)), none, []⟩] [4])
  .ret) .skip))
  (.reg false [⟨(some 77), .faddr 2 (.t 5), none, []⟩,
    ⟨none, .store false 1 (.t 77) (.c (.int .i64 0)), none, []⟩,
    ⟨(some 78), .faddr 3 (.t 5), none, []⟩,
    ⟨none, .store false 1 (.t 78) (.c (.int .i64 0)), none, []⟩,
    ⟨(some 79), .faddr 4 (.t 5), none, []⟩,
    ⟨none, .store false 1 (.t 79) (.c (.bool false)), none, []⟩] [2, 3, 5])) (.seq (.reg false [⟨(some 4), .mov (.c (.bool false)), none, []⟩] [4])
  .ret)))))))))))
  (.seq (.seq (.reg false [⟨(some 80), .faddr 1 (.t 5), none, []⟩,
    ⟨(some 81), .load none (.t 80), none, []⟩,
    ⟨(some 82), .len (.t 81), none, []⟩,
    ⟨(some 83), .bin .gtr (.t 82) (.c (.int .i64 0)), none, []⟩,
    ⟨(some 84), .mov (.t 83), none, []⟩,
    ⟨(some 85), .faddr 2 (.t 5), (some (84, false)), []⟩,
    ⟨(some 86), .load none (.t 85), (some (84, false)), []⟩,
    ⟨(some 87), .bin .neq (.t 86) (.c (.int .i64 0)), (some (84, false)), []⟩,
    ⟨(some 88), .pick (.t 84) (.c (.bool true)) (.t 87), none, []⟩,
    ⟨(some 89), .mov (.t 88), none, []⟩,
    ⟨(some 90), .faddr 3 (.t 5), (some (89, false)), []⟩,
    ⟨(some 91), .load none (.t 90), (some (89, false)), []⟩,
    ⟨(some 92), .bin .neq (.t 91) (.c (.int .i64 0)), (some (89, false)), []⟩,
    ⟨(some 93), .pick (.t 89) (.c (.bool true)) (.t 92), none, []⟩,
    ⟨(some 94), .mov (.t 93), none, []⟩,
    ⟨(some 95), .faddr 4 (.t 5), (some (94, false)), []⟩,
    ⟨(some 96), .load none (.t 95), (some (94, false)), []⟩,
    ⟨(some 97), .pick (.t 94) (.c (.bool true)) (.t 96), none, []⟩] [2, 3, 97])
  (.cond (.t 97) (.seq (.reg false [⟨(some 4), .mov (.c (.bool false)), none, []⟩] [4])
  .ret) .skip))
  (.seq (.reg false [⟨(some 98), .faddr 5 (.t 2), none, []⟩,
    ⟨(some 99), .load none (.t 98), none, []⟩,
    ⟨(some 100), .mkfunc (.func 43) [] [(.t 3)], none, []⟩,
    ⟨(some 101), .call (.c (.func (.func 42) [] [])) [(.t 99), (.t 100)], none, []⟩,
    ⟨(some 102), .un .not (.t 101), none, []⟩,
    ⟨(some 4), .mov (.t 102), none, []⟩] [4])
  .ret))))))))
def f34 : VFn := ⟨2, 103, f34_c, [.t 4], true, []⟩
/- caliper/caliperref09.ranges -/
def f35_l0 : VCode :=
  (.seq (.seq (.reg false [⟨(some 4), .mov (.t 3), none, []⟩,
    ⟨(some 5), .mov (.t 0), none, []⟩,
    ⟨(some 6), .len (.t 5), none, []⟩,
    ⟨(some 7), .bin .lss (.t 4) (.t 6), none, []⟩] [0, 3, 7])
  (.cond (.t 7) .skip (.exit 0)))
  (.seq (.block 1 (.seq (.reg true [⟨(some 10), .mov (.t 0), none, []⟩,
    ⟨(some 11), .mov (.t 3), none, []⟩,
    ⟨(some 12), .iaddr 2 (.t 10) (.t 11), none, []⟩,
    ⟨(some 13), .faddr 0 (.t 12), none, []⟩,
    ⟨(some 14), .load none (.t 13), none, []⟩,
    ⟨(some 15), .bin .lss (.t 14) (.c (.int .i64 0)), none, []⟩,
    ⟨(some 16), .mov (.t 15), none, []⟩,
    ⟨(some 17), .mov (.t 0), (some (16, false)), []⟩,
    ⟨(some 18), .mov (.t 3), (some (16, false)), []⟩,
    ⟨(some 19), .iaddr 2 (.t 17) (.t 18), (some (16, false)), []⟩,
    ⟨(some 20), .faddr 0 (.t 19), (some (16, false)), []⟩,
    ⟨(some 21), .load none (.t 20), (some (16, false)), []⟩,
    ⟨(some 22), .mov (.t 0), (some (16, false)), []⟩,
    ⟨(some 23), .mov (.t 3), (some (16, false)), []⟩,
    ⟨(some 24), .iaddr 2 (.t 22) (.t 23), (some (16, false)), []⟩,
    ⟨(some 25), .faddr 1 (.t 24), (some (16, false)), []⟩,
    ⟨(some 26), .load none (.t 25), (some (16, false)), []⟩,
    ⟨(some 27), .bin .gtr (.t 21) (.t 26), (some (16, false)), []⟩,
    ⟨(some 28), .pick (.t 16) (.c (.bool true)) (.t 27), none, []⟩,
    ⟨(some 29), .mov (.t 28), none, []⟩,
    ⟨(some 30), .mov (.t 0), (some (29, false)), []⟩,
    ⟨(some 31), .mov (.t 3), (some (29, false)), []⟩,
    ⟨(some 32), .iaddr 2 (.t 30) (.t 31), (some (29, false)), []⟩,
    ⟨(some 33), .faddr 1 (.t 32), (some (29, false)), []⟩,
    ⟨(some 34), .load none (.t 33), (some (29, false)), []⟩,
    ⟨(some 35), .bin .gtr (.t 34) (.c (.int .i64 1114111)), (some (29, false)), []⟩,
    ⟨(some 36), .pick (.t 29) (.c (.bool true)) (.t 35), none, []⟩,
    ⟨(some 37), .mov (.t 36), none, []⟩,
    ⟨(some 38), .mov (.t 3), (some (37, false)), []⟩,
    ⟨(some 39), .bin .gtr (.t 38) (.c (.int .i64 0)), (some (37, false)), []⟩,
    ⟨(some 40), .mov (.t 39), (some (37, false)), []⟩,
    ⟨(some 41), .mov (.t 0), (some (40, true)), []⟩,
    ⟨(some 42), .mov (.t 3), (some (40, true)), []⟩,
    ⟨(some 43), .bin .sub (.t 42) (.c (.int .i64 1)), (some (40, true)), []⟩,
    ⟨(some 44), .iaddr 2 (.t 41) (.t 43), (some (40, true)), []⟩,
    ⟨(some 45), .faddr 1 (.t 44), (some (40, true)), []⟩,
    ⟨(some 46), .load none (.t 45), (some (40, true)), []⟩,
    ⟨(some 47), .bin .add (.t 46) (.c (.int .i64 1)), (some (40, true)), []⟩,
    ⟨(some 48), .mov (.t 0), (some (40, true)), []⟩,
    ⟨(some 49), .mov (.t 3), (some (40, true)), []⟩,
    ⟨(some 50), .iaddr 2 (.t 48) (.t 49), (some (40, true)), []⟩,
    ⟨(some 51), .faddr 0 (.t 50), (some (40, true)), []⟩,
    ⟨(some 52), .load none (.t 51), (some (40, true)), []⟩,
    ⟨(some 53), .bin .geq (.t 47) (.t 52), (some (40, true)), []⟩,
    ⟨(some 54), .pick (.t 40) (.t 53) (.c (.bool false)), (some (37, false)), []⟩,
    ⟨(some 55), .pick (.t 37) (.c (.bool true)) (.t 54), none, []⟩] [0, 3, 55])
  (.cond (.t 55) (.seq (.reg false [⟨(some 2), .mov (.c (.bool false)), none, []⟩] [2])
  .ret) .skip)))
  (.reg false [⟨(some 8), .mov (.t 3), none, []⟩,
    ⟨(some 9), .bin .add (.t 8) (.c (.int .i64 1)), none, []⟩,
    ⟨(some 3), .mov (.t 9), none, []⟩] [0, 3])))
def f35_c : VCode :=
  (.seq (.reg false [⟨(some 2), .mov (.c (.bool false)), none, []⟩] [0])
  (.seq (.seq (.reg false [⟨(some 3), .mov (.c (.int .i64 0)), none, []⟩] [0, 3])
  (.block 0 (.loop [0, 3] f35_l0)))
  (.seq (.reg false [⟨(some 2), .mov (.c (.bool true)), none, []⟩] [2])
  .ret)))
def f35 : VFn := ⟨1, 56, f35_c, [.t 2], true, []⟩
/- slices.SortFunc[[]caliper/api.Range,caliper/api.Range] -/
def f36_c : VCode :=
  (.seq (.reg false [⟨(some 5), .mov (.t 0), none, []⟩,
    ⟨(some 6), .len (.t 5), none, []⟩,
    ⟨(some 4), .mov (.t 6), none, []⟩] [0, 1, 4])
  (.reg false [⟨(some 7), .mov (.t 0), none, []⟩,
    ⟨(some 8), .mov (.t 4), none, []⟩,
    ⟨(some 9), .mov (.t 4), none, []⟩,
    ⟨(some 10), .conv (.toInt .u64) (.t 9), none, []⟩,
    ⟨(some 11), .call (.c (.func (.func 45) [] [])) [(.t 10)], none, []⟩,
    ⟨(some 12), .mov (.t 1), none, []⟩,
    ⟨(some 13), .call (.c (.func (.func 44) [] [])) [(.t 7), (.c (.int .i64 0)), (.t 8), (.t 11), (.t 12)], none, []⟩] []))
def f36 : VFn := ⟨2, 14, f36_c, [], false, [0]⟩
/- caliper/rx.Merge$1 -/
def f37_c : VCode :=
  (.seq (.reg false [⟨(some 2), .box true 2 (.t 0), none, []⟩,
    ⟨(some 3), .box true 2 (.t 1), none, []⟩,
    ⟨(some 4), .mov (.c (.int .i64 0)), none, []⟩] [2, 3])
  (.seq (.reg false [⟨(some 5), .faddr 0 (.t 2), none, []⟩,
    ⟨(some 6), .load none (.t 5), none, []⟩,
    ⟨(some 7), .faddr 0 (.t 3), none, []⟩,
    ⟨(some 8), .load none (.t 7), none, []⟩,
    ⟨(some 9), .call (.c (.func (.func 38) [] [])) [(.t 6), (.t 8)], none, []⟩,
    ⟨(some 4), .mov (.t 9), none, []⟩] [4])
  .ret))
def f37 : VFn := ⟨2, 10, f37_c, [.t 4], true, []⟩
/- cmp.Compare[int] -/
def f38_c : VCode :=
  (.seq (.reg false [⟨(some 4), .mov (.c (.int .i64 0)), none, []⟩] [0, 1])
  (.seq (.reg false [⟨(some 7), .mov (.t 0), none, []⟩,
    ⟨(some 8), .call (.c (.func (.func 46) [] [])) [(.t 7)], none, []⟩,
    ⟨(some 5), .mov (.t 8), none, []⟩] [0, 1, 5])
  (.seq (.reg false [⟨(some 9), .mov (.t 1), none, []⟩,
    ⟨(some 10), .call (.c (.func (.func 46) [] [])) [(.t 9)], none, []⟩,
    ⟨(some 6), .mov (.t 10), none, []⟩] [0, 1, 5, 6])
  (.seq (.seq (.reg false [⟨(some 11), .mov (.t 5), none, []⟩] [0, 1, 6, 11])
  (.cond (.t 11) (.seq (.seq (.reg false [⟨(some 12), .mov (.t 6), none, []⟩] [12])
  (.cond (.t 12) (.seq (.reg false [⟨(some 4), .mov (.c (.int .i64 0)), none, []⟩] [4])
  .ret) .skip))
  (.seq (.reg false [⟨(some 4), .mov (.c (.int .i64 (-1))), none, []⟩] [4])
  .ret)) .skip))
  (.seq (.seq (.reg false [⟨(some 13), .mov (.t 6), none, []⟩] [0, 1, 13])
  (.cond (.t 13) (.seq (.reg false [⟨(some 4), .mov (.c (.int .i64 1)), none, []⟩] [4])
  .ret) .skip))
  (.seq (.seq (.reg false [⟨(some 14), .mov (.t 0), none, []⟩,
    ⟨(some 15), .mov (.t 1), none, []⟩,
    ⟨(some 16), .bin .lss (.t 14) (.t 15), none, []⟩] [0, 1, 16])
  (.cond (.t 16) (.seq (.reg false [⟨(some 4), .mov (.c (.int .i64 (-1))), none, []⟩] [4])
  .ret) .skip))
  (.seq (.seq (.reg false [⟨(some 17), .mov (.t 0), none, []⟩,
    ⟨(some 18), .mov (.t 1), none, []⟩,
    ⟨(some 19), .bin .gtr (.t 17) (.t 18), none, []⟩] [19])
  (.cond (.t 19) (.seq (.reg false [⟨(some 4), .mov (.c (.int .i64 1)), none, []⟩] [4])
  .ret) .skip))
  (.seq (.reg false [⟨(some 4), .mov (.c (.int .i64 0)), none, []⟩] [4])
  .ret))))))))
def f38 : VFn := ⟨2, 20, f38_c, [.t 4], true, []⟩
/- (*caliper/nfa.builder).fork$1 -/
def f39_c : VCode :=
  (.reg true [⟨(some 2), .load none (.t 0), none, []⟩,
    ⟨(some 3), .nilck (.t 2), none, []⟩,
    ⟨(some 4), .faddr 0 (.t 3), none, []⟩,
    ⟨(some 5), .load none (.t 4), none, []⟩,
    ⟨(some 6), .load none (.t 1), none, []⟩,
    ⟨(some 7), .load none (.t 0), none, []⟩,
    ⟨(some 8), .nilck (.t 7), none, []⟩,
    ⟨(some 9), .faddr 0 (.t 8), none, []⟩,
    ⟨(some 10), .load none (.t 9), none, []⟩,
    ⟨(some 11), .len (.t 10), none, []⟩,
    ⟨(some 12), .iaddr 4 (.t 5) (.t 6), none, []⟩,
    ⟨(some 13), .faddr 3 (.t 12), none, []⟩,
    ⟨none, .store false 1 (.t 13) (.t 11), none, []⟩] [])
def f39 : VFn := ⟨2, 14, f39_c, [], true, []⟩
/- (*caliper/nfa.builder).jump$1 -/
def f40_c : VCode :=
  (.reg true [⟨(some 4), .load none (.t 1), none, []⟩,
    ⟨(some 5), .nilck (.t 4), none, []⟩,
    ⟨(some 6), .faddr 0 (.t 5), none, []⟩,
    ⟨(some 7), .load none (.t 6), none, []⟩,
    ⟨(some 8), .load none (.t 2), none, []⟩,
    ⟨(some 9), .load none (.t 1), none, []⟩,
    ⟨(some 10), .nilck (.t 9), none, []⟩,
    ⟨(some 11), .faddr 0 (.t 10), none, []⟩,
    ⟨(some 12), .load none (.t 11), none, []⟩,
    ⟨(some 13), .load none (.t 2), none, []⟩,
    ⟨(some 14), .mov (.t 0), none, []⟩,
    ⟨(some 15), .mov (.t 0), none, []⟩,
    ⟨(some 16), .iaddr 4 (.t 7) (.t 8), none, []⟩,
    ⟨(some 17), .faddr 2 (.t 16), none, []⟩,
    ⟨none, .store false 1 (.t 17) (.t 14), none, [2]⟩,
    ⟨(some 18), .iaddr 4 (.t 12) (.t 13), none, []⟩,
    ⟨(some 19), .faddr 3 (.t 18), none, []⟩,
    ⟨none, .store false 1 (.t 19) (.t 15), none, []⟩] [])
def f40 : VFn := ⟨3, 20, f40_c, [], true, []⟩
/- caliper/rx.ranges -/
def f41_c : VCode :=
  (.seq (.reg false [⟨(some 2), .mov (.c (.bool false)), none, []⟩] [0])
  (.seq (.reg false [⟨(some 3), .mov (.t 0), none, []⟩,
    ⟨(some 4), .call (.c (.func (.func 28) [] [])) [(.t 3)], none, []⟩,
    ⟨(some 5), .mov (.t 0), none, []⟩,
    ⟨(some 6), .call (.c (.func (.func 27) [] [])) [(.t 4), (.t 5)], none, []⟩,
    ⟨(some 2), .mov (.t 6), none, []⟩] [2])
  .ret))
def f41 : VFn := ⟨1, 7, f41_c, [.t 2], true, []⟩
/- slices.ContainsFunc[[]caliper/api.Rx,caliper/api.Rx] -/
def f42_c : VCode :=
  (.seq (.reg false [⟨(some 4), .mov (.c (.bool false)), none, []⟩] [0, 1])
  (.seq (.reg false [⟨(some 5), .mov (.t 0), none, []⟩,
    ⟨(some 6), .mov (.t 1), none, []⟩,
    ⟨(some 7), .call (.c (.func (.func 47) [] [])) [(.t 5), (.t 6)], none, []⟩,
    ⟨(some 8), .bin .geq (.t 7) (.c (.int .i64 0)), none, []⟩,
    ⟨(some 4), .mov (.t 8), none, []⟩] [4])
  .ret))
def f42 : VFn := ⟨2, 9, f42_c, [.t 4], true, []⟩
/- caliper/rx.fits$1 -/
def f43_c : VCode :=
  (.seq (.reg false [⟨(some 2), .box true 6 (.t 0), none, []⟩,
    ⟨(some 3), .mov (.c (.bool false)), none, []⟩] [1, 2])
  (.seq (.reg false [⟨(some 4), .load (some 6) (.t 2), none, []⟩,
    ⟨(some 5), .load none (.t 1), none, []⟩,
    ⟨(some 6), .bin .sub (.t 5) (.c (.int .i64 1)), none, []⟩,
    ⟨(some 7), .call (.c (.func (.func 34) [] [])) [(.t 4), (.t 6)], none, []⟩,
    ⟨(some 8), .un .not (.t 7), none, []⟩,
    ⟨(some 3), .mov (.t 8), none, []⟩] [3])
  .ret))
def f43 : VFn := ⟨2, 9, f43_c, [.t 3], true, []⟩
/- slices.pdqsortCmpFunc[caliper/api.Range] -/
def f44_l0 : VCode :=
  (.block 1 (.seq (.reg false [⟨(some 21), .mov (.t 2), none, []⟩,
    ⟨(some 22), .mov (.t 1), none, []⟩,
    ⟨(some 23), .bin .sub (.t 21) (.t 22), none, []⟩,
    ⟨(some 12), .mov (.t 23), none, []⟩] [0, 1, 2, 3, 4, 10, 11, 12])
  (.seq (.seq (.reg false [⟨(some 24), .mov (.t 12), none, []⟩,
    ⟨(some 25), .bin .leq (.t 24) (.c (.int .i64 12)), none, []⟩] [0, 1, 2, 3, 4, 10, 11, 12, 25])
  (.cond (.t 25) (.seq (.reg false [⟨(some 26), .mov (.t 0), none, []⟩,
    ⟨(some 27), .mov (.t 1), none, []⟩,
    ⟨(some 28), .mov (.t 2), none, []⟩,
    ⟨(some 29), .mov (.t 4), none, []⟩,
    ⟨(some 30), .call (.c (.func (.func 48) [] [])) [(.t 26), (.t 27), (.t 28), (.t 29)], none, []⟩] [])
  .ret) .skip))
  (.seq (.seq (.reg false [⟨(some 31), .mov (.t 3), none, []⟩,
    ⟨(some 32), .bin .eql (.t 31) (.c (.int .i64 0)), none, []⟩] [0, 1, 2, 3, 4, 10, 11, 12, 32])
  (.cond (.t 32) (.seq (.reg false [⟨(some 33), .mov (.t 0), none, []⟩,
    ⟨(some 34), .mov (.t 1), none, []⟩,
    ⟨(some 35), .mov (.t 2), none, []⟩,
    ⟨(some 36), .mov (.t 4), none, []⟩,
    ⟨(some 37), .call (.c (.func (.func 49) [] [])) [(.t 33), (.t 34), (.t 35), (.t 36)], none, []⟩] [])
  .ret) .skip))
  (.seq (.seq (.reg false [⟨(some 38), .mov (.t 10), none, []⟩,
    ⟨(some 39), .un .not (.t 38), none, []⟩] [0, 1, 2, 3, 4, 10, 11, 12, 39])
  (.cond (.t 39) (.seq (.reg false [⟨(some 40), .mov (.t 0), none, []⟩,
    ⟨(some 41), .mov (.t 1), none, []⟩,
    ⟨(some 42), .mov (.t 2), none, []⟩,
    ⟨(some 43), .mov (.t 4), none, []⟩,
    ⟨(some 44), .call (.c (.func (.func 50) [] [])) [(.t 40), (.t 41), (.t 42), (.t 43)], none, []⟩] [0, 1, 2, 3, 4, 10, 11, 12])
  (.reg false [⟨(some 45), .mov (.t 3), none, []⟩,
    ⟨(some 46), .bin .sub (.t 45) (.c (.int .i64 1)), none, []⟩,
    ⟨(some 3), .mov (.t 46), none, []⟩] [0, 1, 2, 3, 4, 10, 11, 12])) .skip))
  (.seq (.reg false [⟨(some 48), .mov (.t 0), none, []⟩,
    ⟨(some 49), .mov (.t 1), none, []⟩,
    ⟨(some 50), .mov (.t 2), none, []⟩,
    ⟨(some 51), .mov (.t 4), none, []⟩,
    ⟨(some 52), .call (.c (.func (.func 51) [] [])) [(.t 48), (.t 49), (.t 50), (.t 51)], none, []⟩,
    ⟨(some 47), .mov (.t 52), none, []⟩,
    ⟨(some 53), .extract (.t 47) 0, none, []⟩,
    ⟨(some 54), .extract (.t 47) 1, none, []⟩,
    ⟨(some 13), .mov (.t 53), none, []⟩,
    ⟨(some 14), .mov (.t 54), none, []⟩] [0, 1, 2, 3, 4, 10, 11, 12, 13, 14])
  (.seq (.seq (.reg false [⟨(some 55), .mov (.t 14), none, []⟩,
    ⟨(some 56), .bin .eql (.t 55) (.c (.int .i64 2)), none, []⟩] [0, 1, 2, 3, 4, 10, 11, 12, 13, 14, 56])
  (.cond (.t 56) (.seq (.reg false [⟨(some 57), .mov (.t 0), none, []⟩,
    ⟨(some 58), .mov (.t 1), none, []⟩,
    ⟨(some 59), .mov (.t 2), none, []⟩,
    ⟨(some 60), .mov (.t 4), none, []⟩,
    ⟨(some 61), .call (.c (.func (.func 52) [] [])) [(.t 57), (.t 58), (.t 59), (.t 60)], none, []⟩] [0, 1, 2, 3, 4, 10, 11, 12, 13])
  (.seq (.reg false [⟨(some 62), .mov (.t 2), none, []⟩,
    ⟨(some 63), .bin .sub (.t 62) (.c (.int .i64 1)), none, []⟩,
    ⟨(some 64), .mov (.t 13), none, []⟩,
    ⟨(some 65), .mov (.t 1), none, []⟩,
    ⟨(some 66), .bin .sub (.t 64) (.t 65), none, []⟩,
    ⟨(some 67), .bin .sub (.t 63) (.t 66), none, []⟩,
    ⟨(some 13), .mov (.t 67), none, []⟩] [0, 1, 2, 3, 4, 10, 11, 12, 13])
  (.reg false [⟨(some 14), .mov (.c (.int .i64 1)), none, []⟩] [0, 1, 2, 3, 4, 10, 11, 12, 13, 14]))) .skip))
  (.seq (.seq (.reg false [⟨(some 68), .mov (.t 10), none, []⟩,
    ⟨(some 69), .mov (.t 68), none, []⟩,
    ⟨(some 70), .mov (.t 11), (some (69, true)), []⟩,
    ⟨(some 71), .pick (.t 69) (.t 70) (.c (.bool false)), none, []⟩,
    ⟨(some 72), .mov (.t 71), none, []⟩,
    ⟨(some 73), .mov (.t 14), (some (72, true)), []⟩,
    ⟨(some 74), .bin .eql (.t 73) (.c (.int .i64 1)), (some (72, true)), []⟩,
    ⟨(some 75), .pick (.t 72) (.t 74) (.c (.bool false)), none, []⟩] [0, 1, 2, 3, 4, 10, 11, 12, 13, 75])
  (.cond (.t 75) (.seq (.reg false [⟨(some 76), .mov (.t 0), none, []⟩,
    ⟨(some 77), .mov (.t 1), none, []⟩,
    ⟨(some 78), .mov (.t 2), none, []⟩,
    ⟨(some 79), .mov (.t 4), none, []⟩,
    ⟨(some 80), .call (.c (.func (.func 53) [] [])) [(.t 76), (.t 77), (.t 78), (.t 79)], none, []⟩] [0, 1, 2, 3, 4, 10, 11, 12, 13, 80])
  (.cond (.t 80) .ret .skip)) .skip))
  (.seq (.seq (.reg true [⟨(some 81), .mov (.t 1), none, []⟩,
    ⟨(some 82), .bin .gtr (.t 81) (.c (.int .i64 0)), none, []⟩,
    ⟨(some 83), .mov (.t 82), none, []⟩,
    ⟨(some 84), .mov (.t 4), (some (83, true)), []⟩,
    ⟨(some 85), .mov (.t 0), (some (83, true)), []⟩,
    ⟨(some 86), .mov (.t 1), (some (83, true)), []⟩,
    ⟨(some 87), .bin .sub (.t 86) (.c (.int .i64 1)), (some (83, true)), []⟩,
    ⟨(some 88), .iaddr 2 (.t 85) (.t 87), (some (83, true)), []⟩,
    ⟨(some 89), .load (some 2) (.t 88), (some (83, true)), []⟩,
    ⟨(some 90), .mov (.t 0), (some (83, true)), []⟩,
    ⟨(some 91), .mov (.t 13), (some (83, true)), []⟩,
    ⟨(some 92), .iaddr 2 (.t 90) (.t 91), (some (83, true)), []⟩,
    ⟨(some 93), .load (some 2) (.t 92), (some (83, true)), []⟩,
    ⟨(some 94), .call (.t 84) [(.t 89), (.t 93)], (some (83, true)), []⟩,
    ⟨(some 95), .bin .lss (.t 94) (.c (.int .i64 0)), (some (83, true)), []⟩,
    ⟨(some 96), .un .not (.t 95), (some (83, true)), []⟩,
    ⟨(some 97), .pick (.t 83) (.t 96) (.c (.bool false)), none, []⟩] [0, 1, 2, 3, 4, 10, 11, 12, 13, 97])
  (.cond (.t 97) (.seq (.reg false [⟨(some 98), .mov (.t 0), none, []⟩,
    ⟨(some 99), .mov (.t 1), none, []⟩,
    ⟨(some 100), .mov (.t 2), none, []⟩,
    ⟨(some 101), .mov (.t 13), none, []⟩,
    ⟨(some 102), .mov (.t 4), none, []⟩,
    ⟨(some 103), .call (.c (.func (.func 54) [] [])) [(.t 98), (.t 99), (.t 100), (.t 101), (.t 102)], none, []⟩,
    ⟨(some 15), .mov (.t 103), none, []⟩] [0, 2, 3, 4, 10, 11, 15])
  (.seq (.reg false [⟨(some 104), .mov (.t 15), none, []⟩,
    ⟨(some 1), .mov (.t 104), none, []⟩] [0, 1, 2, 3, 4, 10, 11])
  (.exit 1))) .skip))
  (.seq (.reg false [⟨(some 106), .mov (.t 0), none, []⟩,
    ⟨(some 107), .mov (.t 1), none, []⟩,
    ⟨(some 108), .mov (.t 2), none, []⟩,
    ⟨(some 109), .mov (.t 13), none, []⟩,
    ⟨(some 110), .mov (.t 4), none, []⟩,
    ⟨(some 111), .call (.c (.func (.func 55) [] [])) [(.t 106), (.t 107), (.t 108), (.t 109), (.t 110)], none, []⟩,
    ⟨(some 105), .mov (.t 111), none, []⟩,
    ⟨(some 112), .extract (.t 105) 0, none, []⟩,
    ⟨(some 113), .extract (.t 105) 1, none, []⟩,
    ⟨(some 16), .mov (.t 112), none, []⟩,
    ⟨(some 17), .mov (.t 113), none, []⟩] [0, 1, 2, 3, 4, 12, 16, 17])
  (.seq (.reg false [⟨(some 114), .mov (.t 17), none, []⟩,
    ⟨(some 11), .mov (.t 114), none, []⟩] [0, 1, 2, 3, 4, 11, 12, 16])
  (.seq (.reg false [⟨(some 115), .mov (.t 16), none, []⟩,
    ⟨(some 116), .mov (.t 1), none, []⟩,
    ⟨(some 117), .bin .sub (.t 115) (.t 116), none, []⟩,
    ⟨(some 118), .mov (.t 2), none, []⟩,
    ⟨(some 119), .mov (.t 16), none, []⟩,
    ⟨(some 120), .bin .sub (.t 118) (.t 119), none, []⟩,
    ⟨(some 18), .mov (.t 117), none, []⟩,
    ⟨(some 19), .mov (.t 120), none, []⟩] [0, 1, 2, 3, 4, 11, 12, 16, 18, 19])
  (.seq (.reg false [⟨(some 121), .mov (.t 12), none, []⟩,
    ⟨(some 122), .bin .quo (.t 121) (.c (.int .i64 8)), none, []⟩,
    ⟨(some 20), .mov (.t 122), none, []⟩] [0, 1, 2, 3, 4, 11, 16, 18, 19, 20])
  (.seq (.reg false [⟨(some 123), .mov (.t 18), none, []⟩,
    ⟨(some 124), .mov (.t 19), none, []⟩,
    ⟨(some 125), .bin .lss (.t 123) (.t 124), none, []⟩] [0, 1, 2, 3, 4, 11, 16, 18, 19, 20, 125])
  (.cond (.t 125) (.seq (.reg false [⟨(some 126), .mov (.t 18), none, []⟩,
    ⟨(some 127), .mov (.t 20), none, []⟩,
    ⟨(some 128), .bin .geq (.t 126) (.t 127), none, []⟩,
    ⟨(some 10), .mov (.t 128), none, []⟩] [0, 1, 2, 3, 4, 10, 11, 16])
  (.seq (.reg false [⟨(some 129), .mov (.t 0), none, []⟩,
    ⟨(some 130), .mov (.t 1), none, []⟩,
    ⟨(some 131), .mov (.t 16), none, []⟩,
    ⟨(some 132), .mov (.t 3), none, []⟩,
    ⟨(some 133), .mov (.t 4), none, []⟩,
    ⟨(some 134), .call (.c (.func (.func 44) [] [])) [(.t 129), (.t 130), (.t 131), (.t 132), (.t 133)], none, []⟩] [0, 2, 3, 4, 10, 11, 16])
  (.reg false [⟨(some 135), .mov (.t 16), none, []⟩,
    ⟨(some 136), .bin .add (.t 135) (.c (.int .i64 1)), none, []⟩,
    ⟨(some 1), .mov (.t 136), none, []⟩] [0, 1, 2, 3, 4, 10, 11]))) (.seq (.reg false [⟨(some 137), .mov (.t 19), none, []⟩,
    ⟨(some 138), .mov (.t 20), none, []⟩,
    ⟨(some 139), .bin .geq (.t 137) (.t 138), none, []⟩,
    ⟨(some 10), .mov (.t 139), none, []⟩] [0, 1, 2, 3, 4, 10, 11, 16])
  (.seq (.reg false [⟨(some 140), .mov (.t 0), none, []⟩,
    ⟨(some 141), .mov (.t 16), none, []⟩,
    ⟨(some 142), .bin .add (.t 141) (.c (.int .i64 1)), none, []⟩,
    ⟨(some 143), .mov (.t 2), none, []⟩,
    ⟨(some 144), .mov (.t 3), none, []⟩,
    ⟨(some 145), .mov (.t 4), none, []⟩,
    ⟨(some 146), .call (.c (.func (.func 44) [] [])) [(.t 140), (.t 142), (.t 143), (.t 144), (.t 145)], none, []⟩] [0, 1, 3, 4, 10, 11, 16])
  (.reg false [⟨(some 147), .mov (.t 16), none, []⟩,
    ⟨(some 2), .mov (.t 147), none, []⟩] [0, 1, 2, 3, 4, 10, 11]))))))))))))))))))
def f44_c : VCode :=
  (.seq (.reg false [⟨(some 10), .mov (.c (.bool true)), none, []⟩] [0, 1, 2, 3, 4, 10])
  (.seq (.reg false [⟨(some 11), .mov (.c (.bool true)), none, []⟩] [0, 1, 2, 3, 4, 10, 11])
  (.block 0 (.loop [0, 1, 2, 3, 4, 10, 11] f44_l0))))
def f44 : VFn := ⟨5, 148, f44_c, [], false, [0]⟩
/- math/bits.Len -/
def f45_c : VCode :=
  (.seq (.reg false [⟨(some 2), .mov (.c (.int .i64 0)), none, []⟩] [0])
  (.seq (.cond (.c (.bool false)) (.seq (.reg false [⟨(some 3), .mov (.t 0), none, []⟩,
    ⟨(some 4), .conv (.toInt .u32) (.t 3), none, []⟩,
    ⟨(some 5), .call (.c (.func (.func 56) [] [])) [(.t 4)], none, []⟩,
    ⟨(some 2), .mov (.t 5), none, []⟩] [2])
  .ret) .skip)
  (.seq (.reg false [⟨(some 6), .mov (.t 0), none, []⟩,
    ⟨(some 7), .call (.c (.func (.func 57) [] [])) [(.t 6)], none, []⟩,
    ⟨(some 2), .mov (.t 7), none, []⟩] [2])
  .ret)))
def f45 : VFn := ⟨1, 8, f45_c, [.t 2], true, []⟩
/- cmp.isNaN[int] -/
def f46_c : VCode :=
  (.seq (.reg false [⟨(some 2), .mov (.c (.bool false)), none, []⟩] [0])
  (.seq (.reg false [⟨(some 3), .mov (.t 0), none, []⟩,
    ⟨(some 4), .mov (.t 0), none, []⟩,
    ⟨(some 5), .bin .neq (.t 3) (.t 4), none, []⟩,
    ⟨(some 2), .mov (.t 5), none, []⟩] [2])
  .ret))
def f46 : VFn := ⟨1, 6, f46_c, [.t 2], true, []⟩
/- slices.IndexFunc[[]caliper/api.Rx,caliper/api.Rx] -/
def f47_l0 : VCode :=
  (.seq (.reg false [⟨(some 9), .bin .lss (.t 8) (.t 7), none, []⟩] [0, 1, 7, 8, 9])
  (.seq (.cond (.t 9) .skip (.exit 0))
  (.seq (.block 1 (.seq (.reg false [⟨(some 10), .mov (.t 8), none, []⟩,
    ⟨(some 5), .mov (.t 10), none, []⟩] [0, 1, 5, 7, 8])
  (.seq (.reg false [⟨(some 11), .mov (.t 1), none, []⟩,
    ⟨(some 12), .mov (.t 0), none, []⟩,
    ⟨(some 13), .mov (.t 5), none, []⟩,
    ⟨(some 14), .iaddr 6 (.t 12) (.t 13), none, []⟩,
    ⟨(some 15), .load (some 6) (.t 14), none, []⟩,
    ⟨(some 16), .call (.t 11) [(.t 15)], none, []⟩] [0, 1, 5, 7, 8, 16])
  (.cond (.t 16) (.seq (.reg false [⟨(some 17), .mov (.t 5), none, []⟩,
    ⟨(some 4), .mov (.t 17), none, []⟩] [4])
  .ret) .skip))))
  (.reg false [⟨(some 18), .bin .add (.t 8) (.c (.int .i64 1)), none, []⟩,
    ⟨(some 8), .mov (.t 18), none, []⟩] [0, 1, 7, 8]))))
def f47_c : VCode :=
  (.seq (.reg false [⟨(some 4), .mov (.c (.int .i64 0)), none, []⟩] [0, 1])
  (.seq (.seq (.reg false [⟨(some 6), .mov (.t 0), none, []⟩,
    ⟨(some 7), .len (.t 6), none, []⟩,
    ⟨(some 8), .mov (.c (.int .i64 0)), none, []⟩] [0, 1, 7, 8])
  (.block 0 (.loop [0, 1, 7, 8] f47_l0)))
  (.seq (.reg false [⟨(some 4), .mov (.c (.int .i64 (-1))), none, []⟩] [4])
  .ret)))
def f47 : VFn := ⟨2, 19, f47_c, [.t 4], true, []⟩
/- slices.insertionSortCmpFunc[caliper/api.Range] -/
def f48_l0 : VCode :=
  (.seq (.seq (.reg true [⟨(some 18), .mov (.t 9), none, []⟩,
    ⟨(some 19), .mov (.t 1), none, []⟩,
    ⟨(some 20), .bin .gtr (.t 18) (.t 19), none, []⟩,
    ⟨(some 21), .mov (.t 20), none, []⟩,
    ⟨(some 22), .mov (.t 3), (some (21, true)), []⟩,
    ⟨(some 23), .mov (.t 0), (some (21, true)), []⟩,
    ⟨(some 24), .mov (.t 9), (some (21, true)), []⟩,
    ⟨(some 25), .iaddr 2 (.t 23) (.t 24), (some (21, true)), []⟩,
    ⟨(some 26), .load (some 2) (.t 25), (some (21, true)), []⟩,
    ⟨(some 27), .mov (.t 0), (some (21, true)), []⟩,
    ⟨(some 28), .mov (.t 9), (some (21, true)), []⟩,
    ⟨(some 29), .bin .sub (.t 28) (.c (.int .i64 1)), (some (21, true)), []⟩,
    ⟨(some 30), .iaddr 2 (.t 27) (.t 29), (some (21, true)), []⟩,
    ⟨(some 31), .load (some 2) (.t 30), (some (21, true)), []⟩,
    ⟨(some 32), .call (.t 22) [(.t 26), (.t 31)], (some (21, true)), []⟩,
    ⟨(some 33), .bin .lss (.t 32) (.c (.int .i64 0)), (some (21, true)), []⟩,
    ⟨(some 34), .pick (.t 21) (.t 33) (.c (.bool false)), none, []⟩] [0, 1, 2, 3, 8, 9, 34])
  (.cond (.t 34) .skip (.exit 2)))
  (.seq (.block 3 (.reg true [⟨(some 37), .mov (.t 0), none, []⟩,
    ⟨(some 38), .mov (.t 9), none, []⟩,
    ⟨(some 39), .mov (.t 0), none, []⟩,
    ⟨(some 40), .mov (.t 9), none, []⟩,
    ⟨(some 41), .bin .sub (.t 40) (.c (.int .i64 1)), none, []⟩,
    ⟨(some 42), .mov (.t 0), none, []⟩,
    ⟨(some 43), .mov (.t 9), none, []⟩,
    ⟨(some 44), .bin .sub (.t 43) (.c (.int .i64 1)), none, []⟩,
    ⟨(some 45), .iaddr 2 (.t 42) (.t 44), none, []⟩,
    ⟨(some 46), .load (some 2) (.t 45), none, []⟩,
    ⟨(some 47), .mov (.t 0), none, []⟩,
    ⟨(some 48), .mov (.t 9), none, []⟩,
    ⟨(some 49), .iaddr 2 (.t 47) (.t 48), none, []⟩,
    ⟨(some 50), .load (some 2) (.t 49), none, []⟩,
    ⟨(some 51), .iaddr 2 (.t 37) (.t 38), none, []⟩,
    ⟨none, .store true 2 (.t 51) (.t 46), none, []⟩,
    ⟨(some 52), .iaddr 2 (.t 39) (.t 41), none, []⟩,
    ⟨none, .store true 2 (.t 52) (.t 50), none, []⟩] [0, 1, 2, 3, 8, 9]))
  (.reg false [⟨(some 35), .mov (.t 9), none, []⟩,
    ⟨(some 36), .bin .sub (.t 35) (.c (.int .i64 1)), none, []⟩,
    ⟨(some 9), .mov (.t 36), none, []⟩] [0, 1, 2, 3, 8, 9])))
def f48_l1 : VCode :=
  (.seq (.seq (.reg false [⟨(some 12), .mov (.t 8), none, []⟩,
    ⟨(some 13), .mov (.t 2), none, []⟩,
    ⟨(some 14), .bin .lss (.t 12) (.t 13), none, []⟩] [0, 1, 2, 3, 8, 14])
  (.cond (.t 14) .skip (.exit 0)))
  (.seq (.block 1 (.seq (.reg false [⟨(some 17), .mov (.t 8), none, []⟩,
    ⟨(some 9), .mov (.t 17), none, []⟩] [0, 1, 2, 3, 8, 9])
  (.block 2 (.loop [0, 1, 2, 3, 8, 9] f48_l0))))
  (.reg false [⟨(some 15), .mov (.t 8), none, []⟩,
    ⟨(some 16), .bin .add (.t 15) (.c (.int .i64 1)), none, []⟩,
    ⟨(some 8), .mov (.t 16), none, []⟩] [0, 1, 2, 3, 8])))
def f48_c : VCode :=
  (.seq (.reg false [⟨(some 10), .mov (.t 1), none, []⟩,
    ⟨(some 11), .bin .add (.t 10) (.c (.int .i64 1)), none, []⟩,
    ⟨(some 8), .mov (.t 11), none, []⟩] [0, 1, 2, 3, 8])
  (.block 0 (.loop [0, 1, 2, 3, 8] f48_l1)))
def f48 : VFn := ⟨4, 53, f48_c, [], false, [0]⟩
/- slices.heapSortCmpFunc[caliper/api.Range] -/
def f49_l0 : VCode :=
  (.seq (.seq (.reg false [⟨(some 20), .mov (.t 11), none, []⟩,
    ⟨(some 21), .bin .geq (.t 20) (.c (.int .i64 0)), none, []⟩] [0, 3, 8, 9, 10, 11, 21])
  (.cond (.t 21) .skip (.exit 0)))
  (.seq (.block 1 (.reg false [⟨(some 24), .mov (.t 0), none, []⟩,
    ⟨(some 25), .mov (.t 11), none, []⟩,
    ⟨(some 26), .mov (.t 10), none, []⟩,
    ⟨(some 27), .mov (.t 8), none, []⟩,
    ⟨(some 28), .mov (.t 3), none, []⟩,
    ⟨(some 29), .call (.c (.func (.func 58) [] [])) [(.t 24), (.t 25), (.t 26), (.t 27), (.t 28)], none, []⟩] [0, 3, 8, 9, 10, 11]))
  (.reg false [⟨(some 22), .mov (.t 11), none, []⟩,
    ⟨(some 23), .bin .sub (.t 22) (.c (.int .i64 1)), none, []⟩,
    ⟨(some 11), .mov (.t 23), none, []⟩] [0, 3, 8, 9, 10, 11])))
def f49_l1 : VCode :=
  (.seq (.seq (.reg false [⟨(some 32), .mov (.t 12), none, []⟩,
    ⟨(some 33), .bin .geq (.t 32) (.c (.int .i64 0)), none, []⟩] [0, 3, 8, 9, 12, 33])
  (.cond (.t 33) .skip (.exit 2)))
  (.seq (.block 3 (.seq (.reg true [⟨(some 36), .mov (.t 0), none, []⟩,
    ⟨(some 37), .mov (.t 8), none, []⟩,
    ⟨(some 38), .mov (.t 0), none, []⟩,
    ⟨(some 39), .mov (.t 8), none, []⟩,
    ⟨(some 40), .mov (.t 12), none, []⟩,
    ⟨(some 41), .bin .add (.t 39) (.t 40), none, []⟩,
    ⟨(some 42), .mov (.t 0), none, []⟩,
    ⟨(some 43), .mov (.t 8), none, []⟩,
    ⟨(some 44), .mov (.t 12), none, []⟩,
    ⟨(some 45), .bin .add (.t 43) (.t 44), none, []⟩,
    ⟨(some 46), .iaddr 2 (.t 42) (.t 45), none, []⟩,
    ⟨(some 47), .load (some 2) (.t 46), none, []⟩,
    ⟨(some 48), .mov (.t 0), none, []⟩,
    ⟨(some 49), .mov (.t 8), none, []⟩,
    ⟨(some 50), .iaddr 2 (.t 48) (.t 49), none, []⟩,
    ⟨(some 51), .load (some 2) (.t 50), none, []⟩,
    ⟨(some 52), .iaddr 2 (.t 36) (.t 37), none, []⟩,
    ⟨none, .store true 2 (.t 52) (.t 47), none, []⟩,
    ⟨(some 53), .iaddr 2 (.t 38) (.t 41), none, []⟩,
    ⟨none, .store true 2 (.t 53) (.t 51), none, []⟩] [0, 3, 8, 9, 12])
  (.reg false [⟨(some 54), .mov (.t 0), none, []⟩,
    ⟨(some 55), .mov (.t 9), none, []⟩,
    ⟨(some 56), .mov (.t 12), none, []⟩,
    ⟨(some 57), .mov (.t 8), none, []⟩,
    ⟨(some 58), .mov (.t 3), none, []⟩,
    ⟨(some 59), .call (.c (.func (.func 58) [] [])) [(.t 54), (.t 55), (.t 56), (.t 57), (.t 58)], none, []⟩] [0, 3, 8, 9, 12])))
  (.reg false [⟨(some 34), .mov (.t 12), none, []⟩,
    ⟨(some 35), .bin .sub (.t 34) (.c (.int .i64 1)), none, []⟩,
    ⟨(some 12), .mov (.t 35), none, []⟩] [0, 3, 8, 9, 12])))
def f49_c : VCode :=
  (.seq (.reg false [⟨(some 13), .mov (.t 1), none, []⟩,
    ⟨(some 8), .mov (.t 13), none, []⟩] [0, 1, 2, 3, 8])
  (.seq (.reg false [⟨(some 9), .mov (.c (.int .i64 0)), none, []⟩] [0, 1, 2, 3, 8, 9])
  (.seq (.reg false [⟨(some 14), .mov (.t 2), none, []⟩,
    ⟨(some 15), .mov (.t 1), none, []⟩,
    ⟨(some 16), .bin .sub (.t 14) (.t 15), none, []⟩,
    ⟨(some 10), .mov (.t 16), none, []⟩] [0, 3, 8, 9, 10])
  (.seq (.seq (.reg false [⟨(some 17), .mov (.t 10), none, []⟩,
    ⟨(some 18), .bin .sub (.t 17) (.c (.int .i64 1)), none, []⟩,
    ⟨(some 19), .bin .quo (.t 18) (.c (.int .i64 2)), none, []⟩,
    ⟨(some 11), .mov (.t 19), none, []⟩] [0, 3, 8, 9, 10, 11])
  (.block 0 (.loop [0, 3, 8, 9, 10, 11] f49_l0)))
  (.seq (.reg false [⟨(some 30), .mov (.t 10), none, []⟩,
    ⟨(some 31), .bin .sub (.t 30) (.c (.int .i64 1)), none, []⟩,
    ⟨(some 12), .mov (.t 31), none, []⟩] [0, 3, 8, 9, 12])
  (.block 2 (.loop [0, 3, 8, 9, 12] f49_l1)))))))
def f49 : VFn := ⟨4, 60, f49_c, [], false, [0]⟩
/- slices.breakPatternsCmpFunc[caliper/api.Range] -/
def f50_l0 : VCode :=
  (.seq (.seq (.reg false [⟨(some 28), .mov (.t 11), none, []⟩,
    ⟨(some 29), .mov (.t 1), none, []⟩,
    ⟨(some 30), .mov (.t 8), none, []⟩,
    ⟨(some 31), .bin .quo (.t 30) (.c (.int .i64 4)), none, []⟩,
    ⟨(some 32), .bin .mul (.t 31) (.c (.int .i64 2)), none, []⟩,
    ⟨(some 33), .bin .add (.t 29) (.t 32), none, []⟩,
    ⟨(some 34), .bin .add (.t 33) (.c (.int .i64 1)), none, []⟩,
    ⟨(some 35), .bin .leq (.t 28) (.t 34), none, []⟩] [0, 1, 8, 9, 10, 11, 35])
  (.cond (.t 35) .skip (.exit 0)))
  (.seq (.block 1 (.seq (.reg false [⟨(some 38), .call (.c (.func (.func 60) [] [])) [(.t 9)], none, []⟩,
    ⟨(some 39), .mov (.t 10), none, []⟩,
    ⟨(some 40), .bin .sub (.t 39) (.c (.int .u64 1)), none, []⟩,
    ⟨(some 41), .bin .and (.t 38) (.t 40), none, []⟩,
    ⟨(some 42), .conv (.toInt .i64) (.t 41), none, []⟩,
    ⟨(some 12), .mov (.t 42), none, []⟩] [0, 1, 8, 9, 10, 11, 12])
  (.seq (.seq (.reg false [⟨(some 43), .mov (.t 12), none, []⟩,
    ⟨(some 44), .mov (.t 8), none, []⟩,
    ⟨(some 45), .bin .geq (.t 43) (.t 44), none, []⟩] [0, 1, 8, 9, 10, 11, 12, 45])
  (.cond (.t 45) (.reg false [⟨(some 46), .mov (.t 12), none, []⟩,
    ⟨(some 47), .mov (.t 8), none, []⟩,
    ⟨(some 48), .bin .sub (.t 46) (.t 47), none, []⟩,
    ⟨(some 12), .mov (.t 48), none, []⟩] [0, 1, 8, 9, 10, 11, 12]) .skip))
  (.reg true [⟨(some 49), .mov (.t 0), none, []⟩,
    ⟨(some 50), .mov (.t 11), none, []⟩,
    ⟨(some 51), .mov (.t 0), none, []⟩,
    ⟨(some 52), .mov (.t 1), none, []⟩,
    ⟨(some 53), .mov (.t 12), none, []⟩,
    ⟨(some 54), .bin .add (.t 52) (.t 53), none, []⟩,
    ⟨(some 55), .mov (.t 0), none, []⟩,
    ⟨(some 56), .mov (.t 1), none, []⟩,
    ⟨(some 57), .mov (.t 12), none, []⟩,
    ⟨(some 58), .bin .add (.t 56) (.t 57), none, []⟩,
    ⟨(some 59), .iaddr 2 (.t 55) (.t 58), none, []⟩,
    ⟨(some 60), .load (some 2) (.t 59), none, []⟩,
    ⟨(some 61), .mov (.t 0), none, []⟩,
    ⟨(some 62), .mov (.t 11), none, []⟩,
    ⟨(some 63), .iaddr 2 (.t 61) (.t 62), none, []⟩,
    ⟨(some 64), .load (some 2) (.t 63), none, []⟩,
    ⟨(some 65), .iaddr 2 (.t 49) (.t 50), none, []⟩,
    ⟨none, .store true 2 (.t 65) (.t 60), none, []⟩,
    ⟨(some 66), .iaddr 2 (.t 51) (.t 54), none, []⟩,
    ⟨none, .store true 2 (.t 66) (.t 64), none, []⟩] [0, 1, 8, 9, 10, 11]))))
  (.reg false [⟨(some 36), .mov (.t 11), none, []⟩,
    ⟨(some 37), .bin .add (.t 36) (.c (.int .i64 1)), none, []⟩,
    ⟨(some 11), .mov (.t 37), none, []⟩] [0, 1, 8, 9, 10, 11])))
def f50_c : VCode :=
  (.seq (.reg false [⟨(some 13), .mov (.t 2), none, []⟩,
    ⟨(some 14), .mov (.t 1), none, []⟩,
    ⟨(some 15), .bin .sub (.t 13) (.t 14), none, []⟩,
    ⟨(some 8), .mov (.t 15), none, []⟩] [0, 1, 8])
  (.seq (.reg false [⟨(some 16), .mov (.t 8), none, []⟩,
    ⟨(some 17), .bin .geq (.t 16) (.c (.int .i64 8)), none, []⟩] [0, 1, 8, 17])
  (.cond (.t 17) (.seq (.reg false [⟨(some 18), .mov (.t 8), none, []⟩,
    ⟨(some 19), .conv (.toInt .u64) (.t 18), none, []⟩,
    ⟨(some 9), .alloc false [(.int .u64 0)], none, []⟩,
    ⟨none, .store false 1 (.t 9) (.t 19), none, []⟩] [0, 1, 8, 9])
  (.seq (.reg false [⟨(some 20), .mov (.t 8), none, []⟩,
    ⟨(some 21), .call (.c (.func (.func 59) [] [])) [(.t 20)], none, []⟩,
    ⟨(some 10), .mov (.t 21), none, []⟩] [0, 1, 8, 9, 10])
  (.seq (.reg false [⟨(some 22), .mov (.t 1), none, []⟩,
    ⟨(some 23), .mov (.t 8), none, []⟩,
    ⟨(some 24), .bin .quo (.t 23) (.c (.int .i64 4)), none, []⟩,
    ⟨(some 25), .bin .mul (.t 24) (.c (.int .i64 2)), none, []⟩,
    ⟨(some 26), .bin .add (.t 22) (.t 25), none, []⟩,
    ⟨(some 27), .bin .sub (.t 26) (.c (.int .i64 1)), none, []⟩,
    ⟨(some 11), .mov (.t 27), none, []⟩] [0, 1, 8, 9, 10, 11])
  (.block 0 (.loop [0, 1, 8, 9, 10, 11] f50_l0))))) .skip)))
def f50 : VFn := ⟨4, 67, f50_c, [], false, [0]⟩
/- slices.choosePivotCmpFunc[caliper/api.Range] -/
def f51_c : VCode :=
  (.seq (.reg false [⟨(some 8), .mov (.c (.int .i64 0)), none, []⟩,
    ⟨(some 9), .mov (.c (.int .i64 0)), none, []⟩] [0, 1, 2, 3])
  (.seq (.reg false [⟨(some 15), .mov (.t 2), none, []⟩,
    ⟨(some 16), .mov (.t 1), none, []⟩,
    ⟨(some 17), .bin .sub (.t 15) (.t 16), none, []⟩,
    ⟨(some 10), .mov (.t 17), none, []⟩] [0, 1, 3, 10])
  (.seq (.reg false [⟨(some 11), .alloc false [(.int .i64 0)], none, []⟩] [0, 1, 3, 10, 11])
  (.seq (.reg false [⟨(some 18), .mov (.t 1), none, []⟩,
    ⟨(some 19), .mov (.t 10), none, []⟩,
    ⟨(some 20), .bin .quo (.t 19) (.c (.int .i64 4)), none, []⟩,
    ⟨(some 21), .bin .mul (.t 20) (.c (.int .i64 1)), none, []⟩,
    ⟨(some 22), .bin .add (.t 18) (.t 21), none, []⟩,
    ⟨(some 12), .mov (.t 22), none, []⟩] [0, 1, 3, 10, 11, 12])
  (.seq (.reg false [⟨(some 23), .mov (.t 1), none, []⟩,
    ⟨(some 24), .mov (.t 10), none, []⟩,
    ⟨(some 25), .bin .quo (.t 24) (.c (.int .i64 4)), none, []⟩,
    ⟨(some 26), .bin .mul (.t 25) (.c (.int .i64 2)), none, []⟩,
    ⟨(some 27), .bin .add (.t 23) (.t 26), none, []⟩,
    ⟨(some 13), .mov (.t 27), none, []⟩] [0, 1, 3, 10, 11, 12, 13])
  (.seq (.reg false [⟨(some 28), .mov (.t 1), none, []⟩,
    ⟨(some 29), .mov (.t 10), none, []⟩,
    ⟨(some 30), .bin .quo (.t 29) (.c (.int .i64 4)), none, []⟩,
    ⟨(some 31), .bin .mul (.t 30) (.c (.int .i64 3)), none, []⟩,
    ⟨(some 32), .bin .add (.t 28) (.t 31), none, []⟩,
    ⟨(some 14), .mov (.t 32), none, []⟩] [0, 3, 10, 11, 12, 13, 14])
  (.seq (.seq (.reg false [⟨(some 33), .mov (.t 10), none, []⟩,
    ⟨(some 34), .bin .geq (.t 33) (.c (.int .i64 8)), none, []⟩] [0, 3, 10, 11, 12, 13, 14, 34])
  (.cond (.t 34) (.seq (.seq (.reg false [⟨(some 35), .mov (.t 10), none, []⟩,
    ⟨(some 36), .bin .geq (.t 35) (.c (.int .i64 50)), none, []⟩] [0, 3, 11, 12, 13, 14, 36])
  (.cond (.t 36) (.seq (.reg false [⟨(some 37), .mov (.t 0), none, []⟩,
    ⟨(some 38), .mov (.t 12), none, []⟩,
    ⟨(some 39), .mov (.t 3), none, []⟩,
    ⟨(some 40), .call (.c (.func (.func 61) [] [])) [(.t 37), (.t 38), (.t 11), (.t 39)], none, []⟩,
    ⟨(some 12), .mov (.t 40), none, []⟩] [0, 3, 11, 12, 13, 14])
  (.seq (.reg false [⟨(some 41), .mov (.t 0), none, []⟩,
    ⟨(some 42), .mov (.t 13), none, []⟩,
    ⟨(some 43), .mov (.t 3), none, []⟩,
    ⟨(some 44), .call (.c (.func (.func 61) [] [])) [(.t 41), (.t 42), (.t 11), (.t 43)], none, []⟩,
    ⟨(some 13), .mov (.t 44), none, []⟩] [0, 3, 11, 12, 13, 14])
  (.reg false [⟨(some 45), .mov (.t 0), none, []⟩,
    ⟨(some 46), .mov (.t 14), none, []⟩,
    ⟨(some 47), .mov (.t 3), none, []⟩,
    ⟨(some 48), .call (.c (.func (.func 61) [] [])) [(.t 45), (.t 46), (.t 11), (.t 47)], none, []⟩,
    ⟨(some 14), .mov (.t 48), none, []⟩] [0, 3, 11, 12, 13, 14]))) .skip))
  (.reg false [⟨(some 49), .mov (.t 0), none, []⟩,
    ⟨(some 50), .mov (.t 12), none, []⟩,
    ⟨(some 51), .mov (.t 13), none, []⟩,
    ⟨(some 52), .mov (.t 14), none, []⟩,
    ⟨(some 53), .mov (.t 3), none, []⟩,
    ⟨(some 54), .call (.c (.func (.func 62) [] [])) [(.t 49), (.t 50), (.t 51), (.t 52), (.t 11), (.t 53)], none, []⟩,
    ⟨(some 13), .mov (.t 54), none, []⟩] [11, 13])) .skip))
  (.seq (.reg false [⟨(some 55), .load none (.t 11), none, []⟩] [13, 55])
  (.block 0 (.seq (.reg false [⟨(some 58), .bin .eql (.t 55) (.c (.int .i64 0)), none, []⟩,
    ⟨(some 57), .mov (.t 58), none, []⟩] [13, 55, 57])
  (.cond (.t 57) (.seq (.reg false [⟨(some 59), .mov (.t 13), none, []⟩,
    ⟨(some 8), .mov (.t 59), none, []⟩,
    ⟨(some 9), .mov (.c (.int .i64 1)), none, []⟩] [8, 9])
  .ret) (.seq (.reg false [⟨(some 61), .bin .eql (.t 55) (.c (.int .i64 12)), none, []⟩,
    ⟨(some 60), .mov (.t 61), none, []⟩] [13, 60])
  (.cond (.t 60) (.seq (.reg false [⟨(some 62), .mov (.t 13), none, []⟩,
    ⟨(some 8), .mov (.t 62), none, []⟩,
    ⟨(some 9), .mov (.c (.int .i64 2)), none, []⟩] [8, 9])
  .ret) (.seq (.reg false [⟨(some 56), .mov (.t 13), none, []⟩,
    ⟨(some 8), .mov (.t 56), none, []⟩,
    ⟨(some 9), .mov (.c (.int .i64 0)), none, []⟩] [8, 9])
  .ret))))))))))))))
def f51 : VFn := ⟨4, 63, f51_c, [.t 8, .t 9], false, [0]⟩
/- slices.reverseRangeCmpFunc[caliper/api.Range] -/
def f52_l0 : VCode :=
  (.seq (.seq (.reg false [⟨(some 13), .mov (.t 8), none, []⟩,
    ⟨(some 14), .mov (.t 9), none, []⟩,
    ⟨(some 15), .bin .lss (.t 13) (.t 14), none, []⟩] [0, 8, 9, 15])
  (.cond (.t 15) .skip (.exit 0)))
  (.block 1 (.seq (.reg true [⟨(some 16), .mov (.t 0), none, []⟩,
    ⟨(some 17), .mov (.t 8), none, []⟩,
    ⟨(some 18), .mov (.t 0), none, []⟩,
    ⟨(some 19), .mov (.t 9), none, []⟩,
    ⟨(some 20), .mov (.t 0), none, []⟩,
    ⟨(some 21), .mov (.t 9), none, []⟩,
    ⟨(some 22), .iaddr 2 (.t 20) (.t 21), none, []⟩,
    ⟨(some 23), .load (some 2) (.t 22), none, []⟩,
    ⟨(some 24), .mov (.t 0), none, []⟩,
    ⟨(some 25), .mov (.t 8), none, []⟩,
    ⟨(some 26), .iaddr 2 (.t 24) (.t 25), none, []⟩,
    ⟨(some 27), .load (some 2) (.t 26), none, []⟩,
    ⟨(some 28), .iaddr 2 (.t 16) (.t 17), none, []⟩,
    ⟨none, .store true 2 (.t 28) (.t 23), none, []⟩,
    ⟨(some 29), .iaddr 2 (.t 18) (.t 19), none, []⟩,
    ⟨none, .store true 2 (.t 29) (.t 27), none, []⟩] [0, 8, 9])
  (.seq (.reg false [⟨(some 30), .mov (.t 8), none, []⟩,
    ⟨(some 31), .bin .add (.t 30) (.c (.int .i64 1)), none, []⟩,
    ⟨(some 8), .mov (.t 31), none, []⟩] [0, 8, 9])
  (.reg false [⟨(some 32), .mov (.t 9), none, []⟩,
    ⟨(some 33), .bin .sub (.t 32) (.c (.int .i64 1)), none, []⟩,
    ⟨(some 9), .mov (.t 33), none, []⟩] [0, 8, 9])))))
def f52_c : VCode :=
  (.seq (.reg false [⟨(some 10), .mov (.t 1), none, []⟩,
    ⟨(some 8), .mov (.t 10), none, []⟩] [0, 2, 8])
  (.seq (.reg false [⟨(some 11), .mov (.t 2), none, []⟩,
    ⟨(some 12), .bin .sub (.t 11) (.c (.int .i64 1)), none, []⟩,
    ⟨(some 9), .mov (.t 12), none, []⟩] [0, 8, 9])
  (.block 0 (.loop [0, 8, 9] f52_l0))))
def f52 : VFn := ⟨4, 34, f52_c, [], false, [0]⟩
/- slices.partialInsertionSortCmpFunc[caliper/api.Range] -/
def f53_l0 : VCode :=
  (.seq (.seq (.reg true [⟨(some 19), .mov (.t 9), none, []⟩,
    ⟨(some 20), .mov (.t 2), none, []⟩,
    ⟨(some 21), .bin .lss (.t 19) (.t 20), none, []⟩,
    ⟨(some 22), .mov (.t 21), none, []⟩,
    ⟨(some 23), .mov (.t 3), (some (22, true)), []⟩,
    ⟨(some 24), .mov (.t 0), (some (22, true)), []⟩,
    ⟨(some 25), .mov (.t 9), (some (22, true)), []⟩,
    ⟨(some 26), .iaddr 2 (.t 24) (.t 25), (some (22, true)), []⟩,
    ⟨(some 27), .load (some 2) (.t 26), (some (22, true)), []⟩,
    ⟨(some 28), .mov (.t 0), (some (22, true)), []⟩,
    ⟨(some 29), .mov (.t 9), (some (22, true)), []⟩,
    ⟨(some 30), .bin .sub (.t 29) (.c (.int .i64 1)), (some (22, true)), []⟩,
    ⟨(some 31), .iaddr 2 (.t 28) (.t 30), (some (22, true)), []⟩,
    ⟨(some 32), .load (some 2) (.t 31), (some (22, true)), []⟩,
    ⟨(some 33), .call (.t 23) [(.t 27), (.t 32)], (some (22, true)), []⟩,
    ⟨(some 34), .bin .lss (.t 33) (.c (.int .i64 0)), (some (22, true)), []⟩,
    ⟨(some 35), .un .not (.t 34), (some (22, true)), []⟩,
    ⟨(some 36), .pick (.t 22) (.t 35) (.c (.bool false)), none, []⟩] [0, 1, 2, 3, 9, 10, 36])
  (.cond (.t 36) .skip (.exit 2)))
  (.block 3 (.reg false [⟨(some 37), .mov (.t 9), none, []⟩,
    ⟨(some 38), .bin .add (.t 37) (.c (.int .i64 1)), none, []⟩,
    ⟨(some 9), .mov (.t 38), none, []⟩] [0, 1, 2, 3, 9, 10])))
def f53_l1 : VCode :=
  (.seq (.seq (.reg false [⟨(some 68), .mov (.t 11), none, []⟩,
    ⟨(some 69), .bin .geq (.t 68) (.c (.int .i64 1)), none, []⟩] [0, 1, 2, 3, 9, 10, 11, 69])
  (.cond (.t 69) .skip (.exit 4)))
  (.seq (.block 5 (.seq (.seq (.reg true [⟨(some 72), .mov (.t 3), none, []⟩,
    ⟨(some 73), .mov (.t 0), none, []⟩,
    ⟨(some 74), .mov (.t 11), none, []⟩,
    ⟨(some 75), .iaddr 2 (.t 73) (.t 74), none, []⟩,
    ⟨(some 76), .load (some 2) (.t 75), none, []⟩,
    ⟨(some 77), .mov (.t 0), none, []⟩,
    ⟨(some 78), .mov (.t 11), none, []⟩,
    ⟨(some 79), .bin .sub (.t 78) (.c (.int .i64 1)), none, []⟩,
    ⟨(some 80), .iaddr 2 (.t 77) (.t 79), none, []⟩,
    ⟨(some 81), .load (some 2) (.t 80), none, []⟩,
    ⟨(some 82), .call (.t 72) [(.t 76), (.t 81)], none, []⟩,
    ⟨(some 83), .bin .lss (.t 82) (.c (.int .i64 0)), none, []⟩,
    ⟨(some 84), .un .not (.t 83), none, []⟩] [0, 1, 2, 3, 9, 10, 11, 84])
  (.cond (.t 84) (.exit 4) .skip))
  (.reg true [⟨(some 85), .mov (.t 0), none, []⟩,
    ⟨(some 86), .mov (.t 11), none, []⟩,
    ⟨(some 87), .mov (.t 0), none, []⟩,
    ⟨(some 88), .mov (.t 11), none, []⟩,
    ⟨(some 89), .bin .sub (.t 88) (.c (.int .i64 1)), none, []⟩,
    ⟨(some 90), .mov (.t 0), none, []⟩,
    ⟨(some 91), .mov (.t 11), none, []⟩,
    ⟨(some 92), .bin .sub (.t 91) (.c (.int .i64 1)), none, []⟩,
    ⟨(some 93), .iaddr 2 (.t 90) (.t 92), none, []⟩,
    ⟨(some 94), .load (some 2) (.t 93), none, []⟩,
    ⟨(some 95), .mov (.t 0), none, []⟩,
    ⟨(some 96), .mov (.t 11), none, []⟩,
    ⟨(some 97), .iaddr 2 (.t 95) (.t 96), none, []⟩,
    ⟨(some 98), .load (some 2) (.t 97), none, []⟩,
    ⟨(some 99), .iaddr 2 (.t 85) (.t 86), none, []⟩,
    ⟨none, .store true 2 (.t 99) (.t 94), none, []⟩,
    ⟨(some 100), .iaddr 2 (.t 87) (.t 89), none, []⟩,
    ⟨none, .store true 2 (.t 100) (.t 98), none, []⟩] [0, 1, 2, 3, 9, 10, 11])))
  (.reg false [⟨(some 70), .mov (.t 11), none, []⟩,
    ⟨(some 71), .bin .sub (.t 70) (.c (.int .i64 1)), none, []⟩,
    ⟨(some 11), .mov (.t 71), none, []⟩] [0, 1, 2, 3, 9, 10, 11])))
def f53_l2 : VCode :=
  (.seq (.seq (.reg false [⟨(some 107), .mov (.t 12), none, []⟩,
    ⟨(some 108), .mov (.t 2), none, []⟩,
    ⟨(some 109), .bin .lss (.t 107) (.t 108), none, []⟩] [0, 1, 2, 3, 9, 10, 12, 109])
  (.cond (.t 109) .skip (.exit 6)))
  (.seq (.block 7 (.seq (.seq (.reg true [⟨(some 112), .mov (.t 3), none, []⟩,
    ⟨(some 113), .mov (.t 0), none, []⟩,
    ⟨(some 114), .mov (.t 12), none, []⟩,
    ⟨(some 115), .iaddr 2 (.t 113) (.t 114), none, []⟩,
    ⟨(some 116), .load (some 2) (.t 115), none, []⟩,
    ⟨(some 117), .mov (.t 0), none, []⟩,
    ⟨(some 118), .mov (.t 12), none, []⟩,
    ⟨(some 119), .bin .sub (.t 118) (.c (.int .i64 1)), none, []⟩,
    ⟨(some 120), .iaddr 2 (.t 117) (.t 119), none, []⟩,
    ⟨(some 121), .load (some 2) (.t 120), none, []⟩,
    ⟨(some 122), .call (.t 112) [(.t 116), (.t 121)], none, []⟩,
    ⟨(some 123), .bin .lss (.t 122) (.c (.int .i64 0)), none, []⟩,
    ⟨(some 124), .un .not (.t 123), none, []⟩] [0, 1, 2, 3, 9, 10, 12, 124])
  (.cond (.t 124) (.exit 6) .skip))
  (.reg true [⟨(some 125), .mov (.t 0), none, []⟩,
    ⟨(some 126), .mov (.t 12), none, []⟩,
    ⟨(some 127), .mov (.t 0), none, []⟩,
    ⟨(some 128), .mov (.t 12), none, []⟩,
    ⟨(some 129), .bin .sub (.t 128) (.c (.int .i64 1)), none, []⟩,
    ⟨(some 130), .mov (.t 0), none, []⟩,
    ⟨(some 131), .mov (.t 12), none, []⟩,
    ⟨(some 132), .bin .sub (.t 131) (.c (.int .i64 1)), none, []⟩,
    ⟨(some 133), .iaddr 2 (.t 130) (.t 132), none, []⟩,
    ⟨(some 134), .load (some 2) (.t 133), none, []⟩,
    ⟨(some 135), .mov (.t 0), none, []⟩,
    ⟨(some 136), .mov (.t 12), none, []⟩,
    ⟨(some 137), .iaddr 2 (.t 135) (.t 136), none, []⟩,
    ⟨(some 138), .load (some 2) (.t 137), none, []⟩,
    ⟨(some 139), .iaddr 2 (.t 125) (.t 126), none, []⟩,
    ⟨none, .store true 2 (.t 139) (.t 134), none, []⟩,
    ⟨(some 140), .iaddr 2 (.t 127) (.t 129), none, []⟩,
    ⟨none, .store true 2 (.t 140) (.t 138), none, []⟩] [0, 1, 2, 3, 9, 10, 12])))
  (.reg false [⟨(some 110), .mov (.t 12), none, []⟩,
    ⟨(some 111), .bin .add (.t 110) (.c (.int .i64 1)), none, []⟩,
    ⟨(some 12), .mov (.t 111), none, []⟩] [0, 1, 2, 3, 9, 10, 12])))
def f53_l3 : VCode :=
  (.seq (.seq (.reg false [⟨(some 15), .mov (.t 10), none, []⟩,
    ⟨(some 16), .bin .lss (.t 15) (.c (.int .i64 5)), none, []⟩] [0, 1, 2, 3, 9, 10, 16])
  (.cond (.t 16) .skip (.exit 0)))
  (.seq (.block 1 (.seq (.block 2 (.loop [0, 1, 2, 3, 9, 10] f53_l0))
  (.seq (.seq (.reg false [⟨(some 39), .mov (.t 9), none, []⟩,
    ⟨(some 40), .mov (.t 2), none, []⟩,
    ⟨(some 41), .bin .eql (.t 39) (.t 40), none, []⟩] [0, 1, 2, 3, 9, 10, 41])
  (.cond (.t 41) (.seq (.reg false [⟨(some 8), .mov (.c (.bool true)), none, []⟩] [8])
  .ret) .skip))
  (.seq (.seq (.reg false [⟨(some 42), .mov (.t 2), none, []⟩,
    ⟨(some 43), .mov (.t 1), none, []⟩,
    ⟨(some 44), .bin .sub (.t 42) (.t 43), none, []⟩,
    ⟨(some 45), .bin .lss (.t 44) (.c (.int .i64 50)), none, []⟩] [0, 1, 2, 3, 9, 10, 45])
  (.cond (.t 45) (.seq (.reg false [⟨(some 8), .mov (.c (.bool false)), none, []⟩] [8])
  .ret) .skip))
  (.seq (.reg true [⟨(some 46), .mov (.t 0), none, []⟩,
    ⟨(some 47), .mov (.t 9), none, []⟩,
    ⟨(some 48), .mov (.t 0), none, []⟩,
    ⟨(some 49), .mov (.t 9), none, []⟩,
    ⟨(some 50), .bin .sub (.t 49) (.c (.int .i64 1)), none, []⟩,
    ⟨(some 51), .mov (.t 0), none, []⟩,
    ⟨(some 52), .mov (.t 9), none, []⟩,
    ⟨(some 53), .bin .sub (.t 52) (.c (.int .i64 1)), none, []⟩,
    ⟨(some 54), .iaddr 2 (.t 51) (.t 53), none, []⟩,
    ⟨(some 55), .load (some 2) (.t 54), none, []⟩,
    ⟨(some 56), .mov (.t 0), none, []⟩,
    ⟨(some 57), .mov (.t 9), none, []⟩,
    ⟨(some 58), .iaddr 2 (.t 56) (.t 57), none, []⟩,
    ⟨(some 59), .load (some 2) (.t 58), none, []⟩,
    ⟨(some 60), .iaddr 2 (.t 46) (.t 47), none, []⟩,
    ⟨none, .store true 2 (.t 60) (.t 55), none, []⟩,
    ⟨(some 61), .iaddr 2 (.t 48) (.t 50), none, []⟩,
    ⟨none, .store true 2 (.t 61) (.t 59), none, []⟩] [0, 1, 2, 3, 9, 10])
  (.seq (.seq (.reg false [⟨(some 62), .mov (.t 9), none, []⟩,
    ⟨(some 63), .mov (.t 1), none, []⟩,
    ⟨(some 64), .bin .sub (.t 62) (.t 63), none, []⟩,
    ⟨(some 65), .bin .geq (.t 64) (.c (.int .i64 2)), none, []⟩] [0, 1, 2, 3, 9, 10, 65])
  (.cond (.t 65) (.seq (.reg false [⟨(some 66), .mov (.t 9), none, []⟩,
    ⟨(some 67), .bin .sub (.t 66) (.c (.int .i64 1)), none, []⟩,
    ⟨(some 11), .mov (.t 67), none, []⟩] [0, 1, 2, 3, 9, 10, 11])
  (.block 4 (.loop [0, 1, 2, 3, 9, 10, 11] f53_l1))) .skip))
  (.seq (.reg false [⟨(some 101), .mov (.t 2), none, []⟩,
    ⟨(some 102), .mov (.t 9), none, []⟩,
    ⟨(some 103), .bin .sub (.t 101) (.t 102), none, []⟩,
    ⟨(some 104), .bin .geq (.t 103) (.c (.int .i64 2)), none, []⟩] [0, 1, 2, 3, 9, 10, 104])
  (.cond (.t 104) (.seq (.reg false [⟨(some 105), .mov (.t 9), none, []⟩,
    ⟨(some 106), .bin .add (.t 105) (.c (.int .i64 1)), none, []⟩,
    ⟨(some 12), .mov (.t 106), none, []⟩] [0, 1, 2, 3, 9, 10, 12])
  (.block 6 (.loop [0, 1, 2, 3, 9, 10, 12] f53_l2))) .skip))))))))
  (.reg false [⟨(some 17), .mov (.t 10), none, []⟩,
    ⟨(some 18), .bin .add (.t 17) (.c (.int .i64 1)), none, []⟩,
    ⟨(some 10), .mov (.t 18), none, []⟩] [0, 1, 2, 3, 9, 10])))
def f53_c : VCode :=
  (.seq (.reg false [⟨(some 8), .mov (.c (.bool false)), none, []⟩] [0, 1, 2, 3])
  (.seq (.reg false [⟨(some 13), .mov (.t 1), none, []⟩,
    ⟨(some 14), .bin .add (.t 13) (.c (.int .i64 1)), none, []⟩,
    ⟨(some 9), .mov (.t 14), none, []⟩] [0, 1, 2, 3, 9])
  (.seq (.seq (.reg false [⟨(some 10), .mov (.c (.int .i64 0)), none, []⟩] [0, 1, 2, 3, 9, 10])
  (.block 0 (.loop [0, 1, 2, 3, 9, 10] f53_l3)))
  (.seq (.reg false [⟨(some 8), .mov (.c (.bool false)), none, []⟩] [8])
  .ret))))
def f53 : VFn := ⟨4, 141, f53_c, [.t 8], false, [0]⟩
/- slices.partitionEqualCmpFunc[caliper/api.Range] -/
def f54_l0 : VCode :=
  (.seq (.seq (.reg true [⟨(some 31), .mov (.t 11), none, []⟩,
    ⟨(some 32), .mov (.t 12), none, []⟩,
    ⟨(some 33), .bin .leq (.t 31) (.t 32), none, []⟩,
    ⟨(some 34), .mov (.t 33), none, []⟩,
    ⟨(some 35), .mov (.t 4), (some (34, true)), []⟩,
    ⟨(some 36), .mov (.t 0), (some (34, true)), []⟩,
    ⟨(some 37), .mov (.t 1), (some (34, true)), []⟩,
    ⟨(some 38), .iaddr 2 (.t 36) (.t 37), (some (34, true)), []⟩,
    ⟨(some 39), .load (some 2) (.t 38), (some (34, true)), []⟩,
    ⟨(some 40), .mov (.t 0), (some (34, true)), []⟩,
    ⟨(some 41), .mov (.t 11), (some (34, true)), []⟩,
    ⟨(some 42), .iaddr 2 (.t 40) (.t 41), (some (34, true)), []⟩,
    ⟨(some 43), .load (some 2) (.t 42), (some (34, true)), []⟩,
    ⟨(some 44), .call (.t 35) [(.t 39), (.t 43)], (some (34, true)), []⟩,
    ⟨(some 45), .bin .lss (.t 44) (.c (.int .i64 0)), (some (34, true)), []⟩,
    ⟨(some 46), .un .not (.t 45), (some (34, true)), []⟩,
    ⟨(some 47), .pick (.t 34) (.t 46) (.c (.bool false)), none, []⟩] [0, 1, 4, 11, 12, 47])
  (.cond (.t 47) .skip (.exit 2)))
  (.block 3 (.reg false [⟨(some 48), .mov (.t 11), none, []⟩,
    ⟨(some 49), .bin .add (.t 48) (.c (.int .i64 1)), none, []⟩,
    ⟨(some 11), .mov (.t 49), none, []⟩] [0, 1, 4, 11, 12])))
def f54_l1 : VCode :=
  (.seq (.seq (.reg true [⟨(some 50), .mov (.t 11), none, []⟩,
    ⟨(some 51), .mov (.t 12), none, []⟩,
    ⟨(some 52), .bin .leq (.t 50) (.t 51), none, []⟩,
    ⟨(some 53), .mov (.t 52), none, []⟩,
    ⟨(some 54), .mov (.t 4), (some (53, true)), []⟩,
    ⟨(some 55), .mov (.t 0), (some (53, true)), []⟩,
    ⟨(some 56), .mov (.t 1), (some (53, true)), []⟩,
    ⟨(some 57), .iaddr 2 (.t 55) (.t 56), (some (53, true)), []⟩,
    ⟨(some 58), .load (some 2) (.t 57), (some (53, true)), []⟩,
    ⟨(some 59), .mov (.t 0), (some (53, true)), []⟩,
    ⟨(some 60), .mov (.t 12), (some (53, true)), []⟩,
    ⟨(some 61), .iaddr 2 (.t 59) (.t 60), (some (53, true)), []⟩,
    ⟨(some 62), .load (some 2) (.t 61), (some (53, true)), []⟩,
    ⟨(some 63), .call (.t 54) [(.t 58), (.t 62)], (some (53, true)), []⟩,
    ⟨(some 64), .bin .lss (.t 63) (.c (.int .i64 0)), (some (53, true)), []⟩,
    ⟨(some 65), .pick (.t 53) (.t 64) (.c (.bool false)), none, []⟩] [0, 1, 4, 11, 12, 65])
  (.cond (.t 65) .skip (.exit 4)))
  (.block 5 (.reg false [⟨(some 66), .mov (.t 12), none, []⟩,
    ⟨(some 67), .bin .sub (.t 66) (.c (.int .i64 1)), none, []⟩,
    ⟨(some 12), .mov (.t 67), none, []⟩] [0, 1, 4, 11, 12])))
def f54_l2 : VCode :=
  (.block 1 (.seq (.block 2 (.loop [0, 1, 4, 11, 12] f54_l0))
  (.seq (.block 4 (.loop [0, 1, 4, 11, 12] f54_l1))
  (.seq (.seq (.reg false [⟨(some 68), .mov (.t 11), none, []⟩,
    ⟨(some 69), .mov (.t 12), none, []⟩,
    ⟨(some 70), .bin .gtr (.t 68) (.t 69), none, []⟩] [0, 1, 4, 11, 12, 70])
  (.cond (.t 70) (.exit 0) .skip))
  (.seq (.reg true [⟨(some 71), .mov (.t 0), none, []⟩,
    ⟨(some 72), .mov (.t 11), none, []⟩,
    ⟨(some 73), .mov (.t 0), none, []⟩,
    ⟨(some 74), .mov (.t 12), none, []⟩,
    ⟨(some 75), .mov (.t 0), none, []⟩,
    ⟨(some 76), .mov (.t 12), none, []⟩,
    ⟨(some 77), .iaddr 2 (.t 75) (.t 76), none, []⟩,
    ⟨(some 78), .load (some 2) (.t 77), none, []⟩,
    ⟨(some 79), .mov (.t 0), none, []⟩,
    ⟨(some 80), .mov (.t 11), none, []⟩,
    ⟨(some 81), .iaddr 2 (.t 79) (.t 80), none, []⟩,
    ⟨(some 82), .load (some 2) (.t 81), none, []⟩,
    ⟨(some 83), .iaddr 2 (.t 71) (.t 72), none, []⟩,
    ⟨none, .store true 2 (.t 83) (.t 78), none, []⟩,
    ⟨(some 84), .iaddr 2 (.t 73) (.t 74), none, []⟩,
    ⟨none, .store true 2 (.t 84) (.t 82), none, []⟩] [0, 1, 4, 11, 12])
  (.seq (.reg false [⟨(some 85), .mov (.t 11), none, []⟩,
    ⟨(some 86), .bin .add (.t 85) (.c (.int .i64 1)), none, []⟩,
    ⟨(some 11), .mov (.t 86), none, []⟩] [0, 1, 4, 11, 12])
  (.reg false [⟨(some 87), .mov (.t 12), none, []⟩,
    ⟨(some 88), .bin .sub (.t 87) (.c (.int .i64 1)), none, []⟩,
    ⟨(some 12), .mov (.t 88), none, []⟩] [0, 1, 4, 11, 12])))))))
def f54_c : VCode :=
  (.seq (.reg false [⟨(some 10), .mov (.c (.int .i64 0)), none, []⟩] [0, 1, 2, 3, 4])
  (.seq (.reg true [⟨(some 13), .mov (.t 0), none, []⟩,
    ⟨(some 14), .mov (.t 1), none, []⟩,
    ⟨(some 15), .mov (.t 0), none, []⟩,
    ⟨(some 16), .mov (.t 3), none, []⟩,
    ⟨(some 17), .mov (.t 0), none, []⟩,
    ⟨(some 18), .mov (.t 3), none, []⟩,
    ⟨(some 19), .iaddr 2 (.t 17) (.t 18), none, []⟩,
    ⟨(some 20), .load (some 2) (.t 19), none, []⟩,
    ⟨(some 21), .mov (.t 0), none, []⟩,
    ⟨(some 22), .mov (.t 1), none, []⟩,
    ⟨(some 23), .iaddr 2 (.t 21) (.t 22), none, []⟩,
    ⟨(some 24), .load (some 2) (.t 23), none, []⟩,
    ⟨(some 25), .iaddr 2 (.t 13) (.t 14), none, []⟩,
    ⟨none, .store true 2 (.t 25) (.t 20), none, []⟩,
    ⟨(some 26), .iaddr 2 (.t 15) (.t 16), none, []⟩,
    ⟨none, .store true 2 (.t 26) (.t 24), none, []⟩] [0, 1, 2, 4])
  (.seq (.reg false [⟨(some 27), .mov (.t 1), none, []⟩,
    ⟨(some 28), .bin .add (.t 27) (.c (.int .i64 1)), none, []⟩,
    ⟨(some 29), .mov (.t 2), none, []⟩,
    ⟨(some 30), .bin .sub (.t 29) (.c (.int .i64 1)), none, []⟩,
    ⟨(some 11), .mov (.t 28), none, []⟩,
    ⟨(some 12), .mov (.t 30), none, []⟩] [0, 1, 4, 11, 12])
  (.seq (.block 0 (.loop [0, 1, 4, 11, 12] f54_l2))
  (.seq (.reg false [⟨(some 89), .mov (.t 11), none, []⟩,
    ⟨(some 10), .mov (.t 89), none, []⟩] [10])
  .ret)))))
def f54 : VFn := ⟨5, 90, f54_c, [.t 10], false, [0]⟩
/- slices.partitionCmpFunc[caliper/api.Range] -/
def f55_l0 : VCode :=
  (.seq (.seq (.reg true [⟨(some 32), .mov (.t 12), none, []⟩,
    ⟨(some 33), .mov (.t 13), none, []⟩,
    ⟨(some 34), .bin .leq (.t 32) (.t 33), none, []⟩,
    ⟨(some 35), .mov (.t 34), none, []⟩,
    ⟨(some 36), .mov (.t 4), (some (35, true)), []⟩,
    ⟨(some 37), .mov (.t 0), (some (35, true)), []⟩,
    ⟨(some 38), .mov (.t 12), (some (35, true)), []⟩,
    ⟨(some 39), .iaddr 2 (.t 37) (.t 38), (some (35, true)), []⟩,
    ⟨(some 40), .load (some 2) (.t 39), (some (35, true)), []⟩,
    ⟨(some 41), .mov (.t 0), (some (35, true)), []⟩,
    ⟨(some 42), .mov (.t 1), (some (35, true)), []⟩,
    ⟨(some 43), .iaddr 2 (.t 41) (.t 42), (some (35, true)), []⟩,
    ⟨(some 44), .load (some 2) (.t 43), (some (35, true)), []⟩,
    ⟨(some 45), .call (.t 36) [(.t 40), (.t 44)], (some (35, true)), []⟩,
    ⟨(some 46), .bin .lss (.t 45) (.c (.int .i64 0)), (some (35, true)), []⟩,
    ⟨(some 47), .pick (.t 35) (.t 46) (.c (.bool false)), none, []⟩] [0, 1, 4, 12, 13, 47])
  (.cond (.t 47) .skip (.exit 0)))
  (.block 1 (.reg false [⟨(some 48), .mov (.t 12), none, []⟩,
    ⟨(some 49), .bin .add (.t 48) (.c (.int .i64 1)), none, []⟩,
    ⟨(some 12), .mov (.t 49), none, []⟩] [0, 1, 4, 12, 13])))
def f55_l1 : VCode :=
  (.seq (.seq (.reg true [⟨(some 50), .mov (.t 12), none, []⟩,
    ⟨(some 51), .mov (.t 13), none, []⟩,
    ⟨(some 52), .bin .leq (.t 50) (.t 51), none, []⟩,
    ⟨(some 53), .mov (.t 52), none, []⟩,
    ⟨(some 54), .mov (.t 4), (some (53, true)), []⟩,
    ⟨(some 55), .mov (.t 0), (some (53, true)), []⟩,
    ⟨(some 56), .mov (.t 13), (some (53, true)), []⟩,
    ⟨(some 57), .iaddr 2 (.t 55) (.t 56), (some (53, true)), []⟩,
    ⟨(some 58), .load (some 2) (.t 57), (some (53, true)), []⟩,
    ⟨(some 59), .mov (.t 0), (some (53, true)), []⟩,
    ⟨(some 60), .mov (.t 1), (some (53, true)), []⟩,
    ⟨(some 61), .iaddr 2 (.t 59) (.t 60), (some (53, true)), []⟩,
    ⟨(some 62), .load (some 2) (.t 61), (some (53, true)), []⟩,
    ⟨(some 63), .call (.t 54) [(.t 58), (.t 62)], (some (53, true)), []⟩,
    ⟨(some 64), .bin .lss (.t 63) (.c (.int .i64 0)), (some (53, true)), []⟩,
    ⟨(some 65), .un .not (.t 64), (some (53, true)), []⟩,
    ⟨(some 66), .pick (.t 53) (.t 65) (.c (.bool false)), none, []⟩] [0, 1, 4, 12, 13, 66])
  (.cond (.t 66) .skip (.exit 2)))
  (.block 3 (.reg false [⟨(some 67), .mov (.t 13), none, []⟩,
    ⟨(some 68), .bin .sub (.t 67) (.c (.int .i64 1)), none, []⟩,
    ⟨(some 13), .mov (.t 68), none, []⟩] [0, 1, 4, 12, 13])))
def f55_l2 : VCode :=
  (.seq (.seq (.reg true [⟨(some 105), .mov (.t 12), none, []⟩,
    ⟨(some 106), .mov (.t 13), none, []⟩,
    ⟨(some 107), .bin .leq (.t 105) (.t 106), none, []⟩,
    ⟨(some 108), .mov (.t 107), none, []⟩,
    ⟨(some 109), .mov (.t 4), (some (108, true)), []⟩,
    ⟨(some 110), .mov (.t 0), (some (108, true)), []⟩,
    ⟨(some 111), .mov (.t 12), (some (108, true)), []⟩,
    ⟨(some 112), .iaddr 2 (.t 110) (.t 111), (some (108, true)), []⟩,
    ⟨(some 113), .load (some 2) (.t 112), (some (108, true)), []⟩,
    ⟨(some 114), .mov (.t 0), (some (108, true)), []⟩,
    ⟨(some 115), .mov (.t 1), (some (108, true)), []⟩,
    ⟨(some 116), .iaddr 2 (.t 114) (.t 115), (some (108, true)), []⟩,
    ⟨(some 117), .load (some 2) (.t 116), (some (108, true)), []⟩,
    ⟨(some 118), .call (.t 109) [(.t 113), (.t 117)], (some (108, true)), []⟩,
    ⟨(some 119), .bin .lss (.t 118) (.c (.int .i64 0)), (some (108, true)), []⟩,
    ⟨(some 120), .pick (.t 108) (.t 119) (.c (.bool false)), none, []⟩] [0, 1, 4, 12, 13, 120])
  (.cond (.t 120) .skip (.exit 6)))
  (.block 7 (.reg false [⟨(some 121), .mov (.t 12), none, []⟩,
    ⟨(some 122), .bin .add (.t 121) (.c (.int .i64 1)), none, []⟩,
    ⟨(some 12), .mov (.t 122), none, []⟩] [0, 1, 4, 12, 13])))
def f55_l3 : VCode :=
  (.seq (.seq (.reg true [⟨(some 123), .mov (.t 12), none, []⟩,
    ⟨(some 124), .mov (.t 13), none, []⟩,
    ⟨(some 125), .bin .leq (.t 123) (.t 124), none, []⟩,
    ⟨(some 126), .mov (.t 125), none, []⟩,
    ⟨(some 127), .mov (.t 4), (some (126, true)), []⟩,
    ⟨(some 128), .mov (.t 0), (some (126, true)), []⟩,
    ⟨(some 129), .mov (.t 13), (some (126, true)), []⟩,
    ⟨(some 130), .iaddr 2 (.t 128) (.t 129), (some (126, true)), []⟩,
    ⟨(some 131), .load (some 2) (.t 130), (some (126, true)), []⟩,
    ⟨(some 132), .mov (.t 0), (some (126, true)), []⟩,
    ⟨(some 133), .mov (.t 1), (some (126, true)), []⟩,
    ⟨(some 134), .iaddr 2 (.t 132) (.t 133), (some (126, true)), []⟩,
    ⟨(some 135), .load (some 2) (.t 134), (some (126, true)), []⟩,
    ⟨(some 136), .call (.t 127) [(.t 131), (.t 135)], (some (126, true)), []⟩,
    ⟨(some 137), .bin .lss (.t 136) (.c (.int .i64 0)), (some (126, true)), []⟩,
    ⟨(some 138), .un .not (.t 137), (some (126, true)), []⟩,
    ⟨(some 139), .pick (.t 126) (.t 138) (.c (.bool false)), none, []⟩] [0, 1, 4, 12, 13, 139])
  (.cond (.t 139) .skip (.exit 8)))
  (.block 9 (.reg false [⟨(some 140), .mov (.t 13), none, []⟩,
    ⟨(some 141), .bin .sub (.t 140) (.c (.int .i64 1)), none, []⟩,
    ⟨(some 13), .mov (.t 141), none, []⟩] [0, 1, 4, 12, 13])))
def f55_l4 : VCode :=
  (.block 5 (.seq (.block 6 (.loop [0, 1, 4, 12, 13] f55_l2))
  (.seq (.block 8 (.loop [0, 1, 4, 12, 13] f55_l3))
  (.seq (.seq (.reg false [⟨(some 142), .mov (.t 12), none, []⟩,
    ⟨(some 143), .mov (.t 13), none, []⟩,
    ⟨(some 144), .bin .gtr (.t 142) (.t 143), none, []⟩] [0, 1, 4, 12, 13, 144])
  (.cond (.t 144) (.exit 4) .skip))
  (.seq (.reg true [⟨(some 145), .mov (.t 0), none, []⟩,
    ⟨(some 146), .mov (.t 12), none, []⟩,
    ⟨(some 147), .mov (.t 0), none, []⟩,
    ⟨(some 148), .mov (.t 13), none, []⟩,
    ⟨(some 149), .mov (.t 0), none, []⟩,
    ⟨(some 150), .mov (.t 13), none, []⟩,
    ⟨(some 151), .iaddr 2 (.t 149) (.t 150), none, []⟩,
    ⟨(some 152), .load (some 2) (.t 151), none, []⟩,
    ⟨(some 153), .mov (.t 0), none, []⟩,
    ⟨(some 154), .mov (.t 12), none, []⟩,
    ⟨(some 155), .iaddr 2 (.t 153) (.t 154), none, []⟩,
    ⟨(some 156), .load (some 2) (.t 155), none, []⟩,
    ⟨(some 157), .iaddr 2 (.t 145) (.t 146), none, []⟩,
    ⟨none, .store true 2 (.t 157) (.t 152), none, []⟩,
    ⟨(some 158), .iaddr 2 (.t 147) (.t 148), none, []⟩,
    ⟨none, .store true 2 (.t 158) (.t 156), none, []⟩] [0, 1, 4, 12, 13])
  (.seq (.reg false [⟨(some 159), .mov (.t 12), none, []⟩,
    ⟨(some 160), .bin .add (.t 159) (.c (.int .i64 1)), none, []⟩,
    ⟨(some 12), .mov (.t 160), none, []⟩] [0, 1, 4, 12, 13])
  (.reg false [⟨(some 161), .mov (.t 13), none, []⟩,
    ⟨(some 162), .bin .sub (.t 161) (.c (.int .i64 1)), none, []⟩,
    ⟨(some 13), .mov (.t 162), none, []⟩] [0, 1, 4, 12, 13])))))))
def f55_c : VCode :=
  (.seq (.reg false [⟨(some 10), .mov (.c (.int .i64 0)), none, []⟩,
    ⟨(some 11), .mov (.c (.bool false)), none, []⟩] [0, 1, 2, 3, 4])
  (.seq (.reg true [⟨(some 14), .mov (.t 0), none, []⟩,
    ⟨(some 15), .mov (.t 1), none, []⟩,
    ⟨(some 16), .mov (.t 0), none, []⟩,
    ⟨(some 17), .mov (.t 3), none, []⟩,
    ⟨(some 18), .mov (.t 0), none, []⟩,
    ⟨(some 19), .mov (.t 3), none, []⟩,
    ⟨(some 20), .iaddr 2 (.t 18) (.t 19), none, []⟩,
    ⟨(some 21), .load (some 2) (.t 20), none, []⟩,
    ⟨(some 22), .mov (.t 0), none, []⟩,
    ⟨(some 23), .mov (.t 1), none, []⟩,
    ⟨(some 24), .iaddr 2 (.t 22) (.t 23), none, []⟩,
    ⟨(some 25), .load (some 2) (.t 24), none, []⟩,
    ⟨(some 26), .iaddr 2 (.t 14) (.t 15), none, []⟩,
    ⟨none, .store true 2 (.t 26) (.t 21), none, []⟩,
    ⟨(some 27), .iaddr 2 (.t 16) (.t 17), none, []⟩,
    ⟨none, .store true 2 (.t 27) (.t 25), none, []⟩] [0, 1, 2, 4])
  (.seq (.reg false [⟨(some 28), .mov (.t 1), none, []⟩,
    ⟨(some 29), .bin .add (.t 28) (.c (.int .i64 1)), none, []⟩,
    ⟨(some 30), .mov (.t 2), none, []⟩,
    ⟨(some 31), .bin .sub (.t 30) (.c (.int .i64 1)), none, []⟩,
    ⟨(some 12), .mov (.t 29), none, []⟩,
    ⟨(some 13), .mov (.t 31), none, []⟩] [0, 1, 4, 12, 13])
  (.seq (.block 0 (.loop [0, 1, 4, 12, 13] f55_l0))
  (.seq (.block 2 (.loop [0, 1, 4, 12, 13] f55_l1))
  (.seq (.seq (.reg false [⟨(some 69), .mov (.t 12), none, []⟩,
    ⟨(some 70), .mov (.t 13), none, []⟩,
    ⟨(some 71), .bin .gtr (.t 69) (.t 70), none, []⟩] [0, 1, 4, 12, 13, 71])
  (.cond (.t 71) (.seq (.reg true [⟨(some 72), .mov (.t 0), none, []⟩,
    ⟨(some 73), .mov (.t 13), none, []⟩,
    ⟨(some 74), .mov (.t 0), none, []⟩,
    ⟨(some 75), .mov (.t 1), none, []⟩,
    ⟨(some 76), .mov (.t 0), none, []⟩,
    ⟨(some 77), .mov (.t 1), none, []⟩,
    ⟨(some 78), .iaddr 2 (.t 76) (.t 77), none, []⟩,
    ⟨(some 79), .load (some 2) (.t 78), none, []⟩,
    ⟨(some 80), .mov (.t 0), none, []⟩,
    ⟨(some 81), .mov (.t 13), none, []⟩,
    ⟨(some 82), .iaddr 2 (.t 80) (.t 81), none, []⟩,
    ⟨(some 83), .load (some 2) (.t 82), none, []⟩,
    ⟨(some 84), .iaddr 2 (.t 72) (.t 73), none, []⟩,
    ⟨none, .store true 2 (.t 84) (.t 79), none, []⟩,
    ⟨(some 85), .iaddr 2 (.t 74) (.t 75), none, []⟩,
    ⟨none, .store true 2 (.t 85) (.t 83), none, []⟩] [13])
  (.seq (.reg false [⟨(some 86), .mov (.t 13), none, []⟩,
    ⟨(some 10), .mov (.t 86), none, []⟩,
    ⟨(some 11), .mov (.c (.bool true)), none, []⟩] [10, 11])
  .ret)) .skip))
  (.seq (.reg true [⟨(some 87), .mov (.t 0), none, []⟩,
    ⟨(some 88), .mov (.t 12), none, []⟩,
    ⟨(some 89), .mov (.t 0), none, []⟩,
    ⟨(some 90), .mov (.t 13), none, []⟩,
    ⟨(some 91), .mov (.t 0), none, []⟩,
    ⟨(some 92), .mov (.t 13), none, []⟩,
    ⟨(some 93), .iaddr 2 (.t 91) (.t 92), none, []⟩,
    ⟨(some 94), .load (some 2) (.t 93), none, []⟩,
    ⟨(some 95), .mov (.t 0), none, []⟩,
    ⟨(some 96), .mov (.t 12), none, []⟩,
    ⟨(some 97), .iaddr 2 (.t 95) (.t 96), none, []⟩,
    ⟨(some 98), .load (some 2) (.t 97), none, []⟩,
    ⟨(some 99), .iaddr 2 (.t 87) (.t 88), none, []⟩,
    ⟨none, .store true 2 (.t 99) (.t 94), none, []⟩,
    ⟨(some 100), .iaddr 2 (.t 89) (.t 90), none, []⟩,
    ⟨none, .store true 2 (.t 100) (.t 98), none, []⟩] [0, 1, 4, 12, 13])
  (.seq (.reg false [⟨(some 101), .mov (.t 12), none, []⟩,
    ⟨(some 102), .bin .add (.t 101) (.c (.int .i64 1)), none, []⟩,
    ⟨(some 12), .mov (.t 102), none, []⟩] [0, 1, 4, 12, 13])
  (.seq (.reg false [⟨(some 103), .mov (.t 13), none, []⟩,
    ⟨(some 104), .bin .sub (.t 103) (.c (.int .i64 1)), none, []⟩,
    ⟨(some 13), .mov (.t 104), none, []⟩] [0, 1, 4, 12, 13])
  (.seq (.block 4 (.loop [0, 1, 4, 12, 13] f55_l4))
  (.seq (.reg true [⟨(some 163), .mov (.t 0), none, []⟩,
    ⟨(some 164), .mov (.t 13), none, []⟩,
    ⟨(some 165), .mov (.t 0), none, []⟩,
    ⟨(some 166), .mov (.t 1), none, []⟩,
    ⟨(some 167), .mov (.t 0), none, []⟩,
    ⟨(some 168), .mov (.t 1), none, []⟩,
    ⟨(some 169), .iaddr 2 (.t 167) (.t 168), none, []⟩,
    ⟨(some 170), .load (some 2) (.t 169), none, []⟩,
    ⟨(some 171), .mov (.t 0), none, []⟩,
    ⟨(some 172), .mov (.t 13), none, []⟩,
    ⟨(some 173), .iaddr 2 (.t 171) (.t 172), none, []⟩,
    ⟨(some 174), .load (some 2) (.t 173), none, []⟩,
    ⟨(some 175), .iaddr 2 (.t 163) (.t 164), none, []⟩,
    ⟨none, .store true 2 (.t 175) (.t 170), none, []⟩,
    ⟨(some 176), .iaddr 2 (.t 165) (.t 166), none, []⟩,
    ⟨none, .store true 2 (.t 176) (.t 174), none, []⟩] [13])
  (.seq (.reg false [⟨(some 177), .mov (.t 13), none, []⟩,
    ⟨(some 10), .mov (.t 177), none, []⟩,
    ⟨(some 11), .mov (.c (.bool false)), none, []⟩] [10, 11])
  .ret))))))))))))
def f55 : VFn := ⟨5, 178, f55_c, [.t 10, .t 11], false, [0]⟩
/- math/bits.Len32 -/
def f56_c : VCode :=
  (.seq (.reg false [⟨(some 2), .mov (.c (.int .i64 0)), none, []⟩] [0, 2])
  (.seq (.seq (.reg false [⟨(some 3), .mov (.t 0), none, []⟩,
    ⟨(some 4), .bin .geq (.t 3) (.c (.int .u32 65536)), none, []⟩] [0, 2, 4])
  (.cond (.t 4) (.seq (.reg false [⟨(some 5), .mov (.t 0), none, []⟩,
    ⟨(some 6), .bin .shr (.t 5) (.c (.int .u64 16)), none, []⟩,
    ⟨(some 0), .mov (.t 6), none, []⟩] [0])
  (.reg false [⟨(some 2), .mov (.c (.int .i64 16)), none, []⟩] [0, 2])) .skip))
  (.seq (.seq (.reg false [⟨(some 7), .mov (.t 0), none, []⟩,
    ⟨(some 8), .bin .geq (.t 7) (.c (.int .u32 256)), none, []⟩] [0, 2, 8])
  (.cond (.t 8) (.seq (.reg false [⟨(some 9), .mov (.t 0), none, []⟩,
    ⟨(some 10), .bin .shr (.t 9) (.c (.int .u64 8)), none, []⟩,
    ⟨(some 0), .mov (.t 10), none, []⟩] [0, 2])
  (.reg false [⟨(some 11), .mov (.t 2), none, []⟩,
    ⟨(some 12), .bin .add (.t 11) (.c (.int .i64 8)), none, []⟩,
    ⟨(some 2), .mov (.t 12), none, []⟩] [0, 2])) .skip))
  (.seq (.reg false [⟨(some 13), .mov (.t 2), none, []⟩,
    ⟨(some 14), .mov (.t 0), none, []⟩,
    ⟨(some 15), .conv (.toInt .u8) (.t 14), none, []⟩,
    ⟨(some 16), .idxs (.c (.str ⟨#[0, 1, 2, 2, 3, 3, 3, 3, 4, 4, 4, 4, 4, 4, 4, 4, 5, 5, 5, 5, 5, 5, 5, 5, 5, 5, 5, 5, 5, 5, 5, 5, 6, 6, 6, 6, 6, 6, 6, 6, 6, 6, 6, 6, 6, 6, 6, 6, 6, 6, 6, 6, 6, 6, 6, 6, 6, 6, 6, 6, 6, 6, 6, 6, 7, 7, 7, 7, 7, 7, 7, 7, 7, 7, 7, 7, 7, 7, 7, 7, 7, 7, 7, 7, 7, 7, 7, 7, 7, 7, 7, 7, 7, 7, 7, 7, 7, 7, 7, 7, 7, 7, 7, 7, 7, 7, 7, 7, 7, 7, 7, 7, 7, 7, 7, 7, 7, 7, 7, 7, 7, 7, 7, 7, 7, 7, 7, 7, 8, 8, 8, 8, 8, 8, 8, 8, 8, 8, 8, 8, 8, 8, 8, 8, 8, 8, 8, 8, 8, 8, 8, 8, 8, 8, 8, 8, 8, 8, 8, 8, 8, 8, 8, 8, 8, 8, 8, 8, 8, 8, 8, 8, 8, 8, 8, 8, 8, 8, 8, 8, 8, 8, 8, 8, 8, 8, 8, 8, 8, 8, 8, 8, 8, 8, 8, 8, 8, 8, 8, 8, 8, 8, 8, 8, 8, 8, 8, 8, 8, 8, 8, 8, 8, 8, 8, 8, 8, 8, 8, 8, 8, 8, 8, 8, 8, 8, 8, 8, 8, 8, 8, 8, 8, 8, 8, 8, 8, 8, 8, 8, 8, 8, 8, 8, 8, 8, 8, 8, 8, 8, 8, 8, 8, 8, 8, 8]⟩)) (.t 15), none, []⟩,
    ⟨(some 17), .conv (.toInt .i64) (.t 16), none, []⟩,
    ⟨(some 18), .bin .add (.t 13) (.t 17), none, []⟩,
    ⟨(some 2), .mov (.t 18), none, []⟩] [2])
  .ret))))
def f56 : VFn := ⟨1, 19, f56_c, [.t 2], true, []⟩
/- math/bits.Len64 -/
def f57_c : VCode :=
  (.seq (.reg false [⟨(some 2), .mov (.c (.int .i64 0)), none, []⟩] [0, 2])
  (.seq (.seq (.reg false [⟨(some 3), .mov (.t 0), none, []⟩,
    ⟨(some 4), .bin .geq (.t 3) (.c (.int .u64 4294967296)), none, []⟩] [0, 2, 4])
  (.cond (.t 4) (.seq (.reg false [⟨(some 5), .mov (.t 0), none, []⟩,
    ⟨(some 6), .bin .shr (.t 5) (.c (.int .u64 32)), none, []⟩,
    ⟨(some 0), .mov (.t 6), none, []⟩] [0])
  (.reg false [⟨(some 2), .mov (.c (.int .i64 32)), none, []⟩] [0, 2])) .skip))
  (.seq (.seq (.reg false [⟨(some 7), .mov (.t 0), none, []⟩,
    ⟨(some 8), .bin .geq (.t 7) (.c (.int .u64 65536)), none, []⟩] [0, 2, 8])
  (.cond (.t 8) (.seq (.reg false [⟨(some 9), .mov (.t 0), none, []⟩,
    ⟨(some 10), .bin .shr (.t 9) (.c (.int .u64 16)), none, []⟩,
    ⟨(some 0), .mov (.t 10), none, []⟩] [0, 2])
  (.reg false [⟨(some 11), .mov (.t 2), none, []⟩,
    ⟨(some 12), .bin .add (.t 11) (.c (.int .i64 16)), none, []⟩,
    ⟨(some 2), .mov (.t 12), none, []⟩] [0, 2])) .skip))
  (.seq (.seq (.reg false [⟨(some 13), .mov (.t 0), none, []⟩,
    ⟨(some 14), .bin .geq (.t 13) (.c (.int .u64 256)), none, []⟩] [0, 2, 14])
  (.cond (.t 14) (.seq (.reg false [⟨(some 15), .mov (.t 0), none, []⟩,
    ⟨(some 16), .bin .shr (.t 15) (.c (.int .u64 8)), none, []⟩,
    ⟨(some 0), .mov (.t 16), none, []⟩] [0, 2])
  (.reg false [⟨(some 17), .mov (.t 2), none, []⟩,
    ⟨(some 18), .bin .add (.t 17) (.c (.int .i64 8)), none, []⟩,
    ⟨(some 2), .mov (.t 18), none, []⟩] [0, 2])) .skip))
  (.seq (.reg false [⟨(some 19), .mov (.t 2), none, []⟩,
    ⟨(some 20), .mov (.t 0), none, []⟩,
    ⟨(some 21), .conv (.toInt .u8) (.t 20), none, []⟩,
    ⟨(some 22), .idxs (.c (.str ⟨#[0, 1, 2, 2, 3, 3, 3, 3, 4, 4, 4, 4, 4, 4, 4, 4, 5, 5, 5, 5, 5, 5, 5, 5, 5, 5, 5, 5, 5, 5, 5, 5, 6, 6, 6, 6, 6, 6, 6, 6, 6, 6, 6, 6, 6, 6, 6, 6, 6, 6, 6, 6, 6, 6, 6, 6, 6, 6, 6, 6, 6, 6, 6, 6, 7, 7, 7, 7, 7, 7, 7, 7, 7, 7, 7, 7, 7, 7, 7, 7, 7, 7, 7, 7, 7, 7, 7, 7, 7, 7, 7, 7, 7, 7, 7, 7, 7, 7, 7, 7, 7, 7, 7, 7, 7, 7, 7, 7, 7, 7, 7, 7, 7, 7, 7, 7, 7, 7, 7, 7, 7, 7, 7, 7, 7, 7, 7, 7, 8, 8, 8, 8, 8, 8, 8, 8, 8, 8, 8, 8, 8, 8, 8, 8, 8, 8, 8, 8, 8, 8, 8, 8, 8, 8, 8, 8, 8, 8, 8, 8, 8, 8, 8, 8, 8, 8, 8, 8, 8, 8, 8, 8, 8, 8, 8, 8, 8, 8, 8, 8, 8, 8, 8, 8, 8, 8, 8, 8, 8, 8, 8, 8, 8, 8, 8, 8, 8, 8, 8, 8, 8, 8, 8, 8, 8, 8, 8, 8, 8, 8, 8, 8, 8, 8, 8, 8, 8, 8, 8, 8, 8, 8, 8, 8, 8, 8, 8, 8, 8, 8, 8, 8, 8, 8, 8, 8, 8, 8, 8, 8, 8, 8, 8, 8, 8, 8, 8, 8, 8, 8, 8, 8, 8, 8, 8, 8]⟩)) (.t 21), none, []⟩,
    ⟨(some 23), .conv (.toInt .i64) (.t 22), none, []⟩,
    ⟨(some 24), .bin .add (.t 19) (.t 23), none, []⟩,
    ⟨(some 2), .mov (.t 24), none, []⟩] [2])
  .ret)))))
def f57 : VFn := ⟨1, 25, f57_c, [.t 2], true, []⟩
/- slices.siftDownCmpFunc[caliper/api.Range] -/
def f58_l0 : VCode :=
  (.block 1 (.seq (.reg false [⟨(some 13), .mov (.t 10), none, []⟩,
    ⟨(some 14), .bin .mul (.c (.int .i64 2)) (.t 13), none, []⟩,
    ⟨(some 15), .bin .add (.t 14) (.c (.int .i64 1)), none, []⟩,
    ⟨(some 11), .mov (.t 15), none, []⟩] [0, 2, 3, 4, 10, 11])
  (.seq (.seq (.reg false [⟨(some 16), .mov (.t 11), none, []⟩,
    ⟨(some 17), .mov (.t 2), none, []⟩,
    ⟨(some 18), .bin .geq (.t 16) (.t 17), none, []⟩] [0, 2, 3, 4, 10, 11, 18])
  (.cond (.t 18) (.exit 0) .skip))
  (.seq (.seq (.reg true [⟨(some 19), .mov (.t 11), none, []⟩,
    ⟨(some 20), .bin .add (.t 19) (.c (.int .i64 1)), none, []⟩,
    ⟨(some 21), .mov (.t 2), none, []⟩,
    ⟨(some 22), .bin .lss (.t 20) (.t 21), none, []⟩,
    ⟨(some 23), .mov (.t 22), none, []⟩,
    ⟨(some 24), .mov (.t 4), (some (23, true)), []⟩,
    ⟨(some 25), .mov (.t 0), (some (23, true)), []⟩,
    ⟨(some 26), .mov (.t 3), (some (23, true)), []⟩,
    ⟨(some 27), .mov (.t 11), (some (23, true)), []⟩,
    ⟨(some 28), .bin .add (.t 26) (.t 27), (some (23, true)), []⟩,
    ⟨(some 29), .iaddr 2 (.t 25) (.t 28), (some (23, true)), []⟩,
    ⟨(some 30), .load (some 2) (.t 29), (some (23, true)), []⟩,
    ⟨(some 31), .mov (.t 0), (some (23, true)), []⟩,
    ⟨(some 32), .mov (.t 3), (some (23, true)), []⟩,
    ⟨(some 33), .mov (.t 11), (some (23, true)), []⟩,
    ⟨(some 34), .bin .add (.t 32) (.t 33), (some (23, true)), []⟩,
    ⟨(some 35), .bin .add (.t 34) (.c (.int .i64 1)), (some (23, true)), []⟩,
    ⟨(some 36), .iaddr 2 (.t 31) (.t 35), (some (23, true)), []⟩,
    ⟨(some 37), .load (some 2) (.t 36), (some (23, true)), []⟩,
    ⟨(some 38), .call (.t 24) [(.t 30), (.t 37)], (some (23, true)), []⟩,
    ⟨(some 39), .bin .lss (.t 38) (.c (.int .i64 0)), (some (23, true)), []⟩,
    ⟨(some 40), .pick (.t 23) (.t 39) (.c (.bool false)), none, []⟩] [0, 2, 3, 4, 10, 11, 40])
  (.cond (.t 40) (.reg false [⟨(some 41), .mov (.t 11), none, []⟩,
    ⟨(some 42), .bin .add (.t 41) (.c (.int .i64 1)), none, []⟩,
    ⟨(some 11), .mov (.t 42), none, []⟩] [0, 2, 3, 4, 10, 11]) .skip))
  (.seq (.seq (.reg true [⟨(some 43), .mov (.t 4), none, []⟩,
    ⟨(some 44), .mov (.t 0), none, []⟩,
    ⟨(some 45), .mov (.t 3), none, []⟩,
    ⟨(some 46), .mov (.t 10), none, []⟩,
    ⟨(some 47), .bin .add (.t 45) (.t 46), none, []⟩,
    ⟨(some 48), .iaddr 2 (.t 44) (.t 47), none, []⟩,
    ⟨(some 49), .load (some 2) (.t 48), none, []⟩,
    ⟨(some 50), .mov (.t 0), none, []⟩,
    ⟨(some 51), .mov (.t 3), none, []⟩,
    ⟨(some 52), .mov (.t 11), none, []⟩,
    ⟨(some 53), .bin .add (.t 51) (.t 52), none, []⟩,
    ⟨(some 54), .iaddr 2 (.t 50) (.t 53), none, []⟩,
    ⟨(some 55), .load (some 2) (.t 54), none, []⟩,
    ⟨(some 56), .call (.t 43) [(.t 49), (.t 55)], none, []⟩,
    ⟨(some 57), .bin .lss (.t 56) (.c (.int .i64 0)), none, []⟩,
    ⟨(some 58), .un .not (.t 57), none, []⟩] [0, 2, 3, 4, 10, 11, 58])
  (.cond (.t 58) .ret .skip))
  (.seq (.reg true [⟨(some 59), .mov (.t 0), none, []⟩,
    ⟨(some 60), .mov (.t 3), none, []⟩,
    ⟨(some 61), .mov (.t 10), none, []⟩,
    ⟨(some 62), .bin .add (.t 60) (.t 61), none, []⟩,
    ⟨(some 63), .mov (.t 0), none, []⟩,
    ⟨(some 64), .mov (.t 3), none, []⟩,
    ⟨(some 65), .mov (.t 11), none, []⟩,
    ⟨(some 66), .bin .add (.t 64) (.t 65), none, []⟩,
    ⟨(some 67), .mov (.t 0), none, []⟩,
    ⟨(some 68), .mov (.t 3), none, []⟩,
    ⟨(some 69), .mov (.t 11), none, []⟩,
    ⟨(some 70), .bin .add (.t 68) (.t 69), none, []⟩,
    ⟨(some 71), .iaddr 2 (.t 67) (.t 70), none, []⟩,
    ⟨(some 72), .load (some 2) (.t 71), none, []⟩,
    ⟨(some 73), .mov (.t 0), none, []⟩,
    ⟨(some 74), .mov (.t 3), none, []⟩,
    ⟨(some 75), .mov (.t 10), none, []⟩,
    ⟨(some 76), .bin .add (.t 74) (.t 75), none, []⟩,
    ⟨(some 77), .iaddr 2 (.t 73) (.t 76), none, []⟩,
    ⟨(some 78), .load (some 2) (.t 77), none, []⟩,
    ⟨(some 79), .iaddr 2 (.t 59) (.t 62), none, []⟩,
    ⟨none, .store true 2 (.t 79) (.t 72), none, []⟩,
    ⟨(some 80), .iaddr 2 (.t 63) (.t 66), none, []⟩,
    ⟨none, .store true 2 (.t 80) (.t 78), none, []⟩] [0, 2, 3, 4, 11])
  (.reg false [⟨(some 81), .mov (.t 11), none, []⟩,
    ⟨(some 10), .mov (.t 81), none, []⟩] [0, 2, 3, 4, 10])))))))
def f58_c : VCode :=
  (.seq (.reg false [⟨(some 12), .mov (.t 1), none, []⟩,
    ⟨(some 10), .mov (.t 12), none, []⟩] [0, 2, 3, 4, 10])
  (.block 0 (.loop [0, 2, 3, 4, 10] f58_l0)))
def f58 : VFn := ⟨5, 82, f58_c, [], false, [0]⟩
/- slices.nextPowerOfTwo -/
def f59_c : VCode :=
  (.seq (.reg false [⟨(some 2), .mov (.c (.int .u64 0)), none, []⟩] [0])
  (.seq (.reg false [⟨(some 3), .mov (.t 0), none, []⟩,
    ⟨(some 4), .conv (.toInt .u64) (.t 3), none, []⟩,
    ⟨(some 5), .call (.c (.func (.func 45) [] [])) [(.t 4)], none, []⟩,
    ⟨(some 6), .bin .shl (.c (.int .u64 1)) (.t 5), none, []⟩,
    ⟨(some 2), .mov (.t 6), none, []⟩] [2])
  .ret))
def f59 : VFn := ⟨1, 7, f59_c, [.t 2], true, []⟩
/- (*slices.xorshift).Next -/
def f60_c : VCode :=
  (.seq (.reg false [⟨(some 2), .mov (.c (.int .u64 0)), none, []⟩] [0])
  (.seq (.reg true [⟨(some 3), .mov (.t 0), none, []⟩,
    ⟨(some 4), .nilck (.t 3), none, []⟩,
    ⟨(some 5), .load none (.t 4), none, []⟩,
    ⟨(some 6), .mov (.t 0), none, []⟩,
    ⟨(some 7), .nilck (.t 6), none, []⟩,
    ⟨(some 8), .load none (.t 7), none, []⟩,
    ⟨(some 9), .bin .shl (.t 8) (.c (.int .u64 13)), none, []⟩,
    ⟨(some 10), .bin .xor (.t 5) (.t 9), none, []⟩,
    ⟨(some 11), .nilck (.t 3), none, []⟩,
    ⟨none, .store false 1 (.t 11) (.t 10), none, []⟩] [0])
  (.seq (.reg true [⟨(some 12), .mov (.t 0), none, []⟩,
    ⟨(some 13), .nilck (.t 12), none, []⟩,
    ⟨(some 14), .load none (.t 13), none, []⟩,
    ⟨(some 15), .mov (.t 0), none, []⟩,
    ⟨(some 16), .nilck (.t 15), none, []⟩,
    ⟨(some 17), .load none (.t 16), none, []⟩,
    ⟨(some 18), .bin .shr (.t 17) (.c (.int .u64 7)), none, []⟩,
    ⟨(some 19), .bin .xor (.t 14) (.t 18), none, []⟩,
    ⟨(some 20), .nilck (.t 12), none, []⟩,
    ⟨none, .store false 1 (.t 20) (.t 19), none, []⟩] [0])
  (.seq (.reg true [⟨(some 21), .mov (.t 0), none, []⟩,
    ⟨(some 22), .nilck (.t 21), none, []⟩,
    ⟨(some 23), .load none (.t 22), none, []⟩,
    ⟨(some 24), .mov (.t 0), none, []⟩,
    ⟨(some 25), .nilck (.t 24), none, []⟩,
    ⟨(some 26), .load none (.t 25), none, []⟩,
    ⟨(some 27), .bin .shl (.t 26) (.c (.int .u64 17)), none, []⟩,
    ⟨(some 28), .bin .xor (.t 23) (.t 27), none, []⟩,
    ⟨(some 29), .nilck (.t 21), none, []⟩,
    ⟨none, .store false 1 (.t 29) (.t 28), none, []⟩] [0])
  (.seq (.reg false [⟨(some 30), .mov (.t 0), none, []⟩,
    ⟨(some 31), .nilck (.t 30), none, []⟩,
    ⟨(some 32), .load none (.t 31), none, []⟩,
    ⟨(some 2), .mov (.t 32), none, []⟩] [2])
  .ret)))))
def f60 : VFn := ⟨1, 33, f60_c, [.t 2], true, []⟩
/- slices.medianAdjacentCmpFunc[caliper/api.Range] -/
def f61_c : VCode :=
  (.seq (.reg false [⟨(some 8), .mov (.c (.int .i64 0)), none, []⟩] [0, 1, 2, 3])
  (.seq (.reg false [⟨(some 9), .mov (.t 0), none, []⟩,
    ⟨(some 10), .mov (.t 1), none, []⟩,
    ⟨(some 11), .bin .sub (.t 10) (.c (.int .i64 1)), none, []⟩,
    ⟨(some 12), .mov (.t 1), none, []⟩,
    ⟨(some 13), .mov (.t 1), none, []⟩,
    ⟨(some 14), .bin .add (.t 13) (.c (.int .i64 1)), none, []⟩,
    ⟨(some 15), .mov (.t 2), none, []⟩,
    ⟨(some 16), .mov (.t 3), none, []⟩,
    ⟨(some 17), .call (.c (.func (.func 62) [] [])) [(.t 9), (.t 11), (.t 12), (.t 14), (.t 15), (.t 16)], none, []⟩,
    ⟨(some 8), .mov (.t 17), none, []⟩] [8])
  .ret))
def f61 : VFn := ⟨4, 18, f61_c, [.t 8], false, [0]⟩
/- slices.medianCmpFunc[caliper/api.Range] -/
def f62_c : VCode :=
  (.seq (.reg false [⟨(some 12), .mov (.c (.int .i64 0)), none, []⟩] [0, 1, 2, 3, 4, 5])
  (.seq (.reg false [⟨(some 14), .mov (.t 0), none, []⟩,
    ⟨(some 15), .mov (.t 1), none, []⟩,
    ⟨(some 16), .mov (.t 2), none, []⟩,
    ⟨(some 17), .mov (.t 4), none, []⟩,
    ⟨(some 18), .mov (.t 5), none, []⟩,
    ⟨(some 19), .call (.c (.func (.func 63) [] [])) [(.t 14), (.t 15), (.t 16), (.t 17), (.t 18)], none, []⟩,
    ⟨(some 13), .mov (.t 19), none, []⟩,
    ⟨(some 20), .extract (.t 13) 0, none, []⟩,
    ⟨(some 21), .extract (.t 13) 1, none, []⟩,
    ⟨(some 1), .mov (.t 20), none, []⟩,
    ⟨(some 2), .mov (.t 21), none, []⟩] [0, 1, 2, 3, 4, 5])
  (.seq (.reg false [⟨(some 23), .mov (.t 0), none, []⟩,
    ⟨(some 24), .mov (.t 2), none, []⟩,
    ⟨(some 25), .mov (.t 3), none, []⟩,
    ⟨(some 26), .mov (.t 4), none, []⟩,
    ⟨(some 27), .mov (.t 5), none, []⟩,
    ⟨(some 28), .call (.c (.func (.func 63) [] [])) [(.t 23), (.t 24), (.t 25), (.t 26), (.t 27)], none, []⟩,
    ⟨(some 22), .mov (.t 28), none, []⟩,
    ⟨(some 29), .extract (.t 22) 0, none, []⟩,
    ⟨(some 30), .extract (.t 22) 1, none, []⟩,
    ⟨(some 2), .mov (.t 29), none, []⟩,
    ⟨(some 3), .mov (.t 30), none, []⟩] [0, 1, 2, 4, 5])
  (.seq (.reg false [⟨(some 32), .mov (.t 0), none, []⟩,
    ⟨(some 33), .mov (.t 1), none, []⟩,
    ⟨(some 34), .mov (.t 2), none, []⟩,
    ⟨(some 35), .mov (.t 4), none, []⟩,
    ⟨(some 36), .mov (.t 5), none, []⟩,
    ⟨(some 37), .call (.c (.func (.func 63) [] [])) [(.t 32), (.t 33), (.t 34), (.t 35), (.t 36)], none, []⟩,
    ⟨(some 31), .mov (.t 37), none, []⟩,
    ⟨(some 38), .extract (.t 31) 0, none, []⟩,
    ⟨(some 39), .extract (.t 31) 1, none, []⟩,
    ⟨(some 1), .mov (.t 38), none, []⟩,
    ⟨(some 2), .mov (.t 39), none, []⟩] [2])
  (.seq (.reg false [⟨(some 40), .mov (.t 2), none, []⟩,
    ⟨(some 12), .mov (.t 40), none, []⟩] [12])
  .ret)))))
def f62 : VFn := ⟨6, 41, f62_c, [.t 12], false, [0]⟩
/- slices.order2CmpFunc[caliper/api.Range] -/
def f63_c : VCode :=
  (.seq (.reg false [⟨(some 10), .mov (.c (.int .i64 0)), none, []⟩,
    ⟨(some 11), .mov (.c (.int .i64 0)), none, []⟩] [0, 1, 2, 3, 4])
  (.seq (.seq (.reg true [⟨(some 12), .mov (.t 4), none, []⟩,
    ⟨(some 13), .mov (.t 0), none, []⟩,
    ⟨(some 14), .mov (.t 2), none, []⟩,
    ⟨(some 15), .iaddr 2 (.t 13) (.t 14), none, []⟩,
    ⟨(some 16), .load (some 2) (.t 15), none, []⟩,
    ⟨(some 17), .mov (.t 0), none, []⟩,
    ⟨(some 18), .mov (.t 1), none, []⟩,
    ⟨(some 19), .iaddr 2 (.t 17) (.t 18), none, []⟩,
    ⟨(some 20), .load (some 2) (.t 19), none, []⟩,
    ⟨(some 21), .call (.t 12) [(.t 16), (.t 20)], none, []⟩,
    ⟨(some 22), .bin .lss (.t 21) (.c (.int .i64 0)), none, []⟩] [1, 2, 3, 22])
  (.cond (.t 22) (.seq (.reg false [⟨(some 23), .mov (.t 3), none, []⟩,
    ⟨(some 24), .nilck (.t 23), none, []⟩,
    ⟨(some 25), .load none (.t 24), none, []⟩,
    ⟨(some 26), .bin .add (.t 25) (.c (.int .i64 1)), none, []⟩,
    ⟨(some 27), .nilck (.t 23), none, []⟩,
    ⟨none, .store false 1 (.t 27) (.t 26), none, []⟩] [1, 2])
  (.seq (.reg false [⟨(some 28), .mov (.t 2), none, []⟩,
    ⟨(some 29), .mov (.t 1), none, []⟩,
    ⟨(some 10), .mov (.t 28), none, []⟩,
    ⟨(some 11), .mov (.t 29), none, []⟩] [10, 11])
  .ret)) .skip))
  (.seq (.reg false [⟨(some 30), .mov (.t 1), none, []⟩,
    ⟨(some 31), .mov (.t 2), none, []⟩,
    ⟨(some 10), .mov (.t 30), none, []⟩,
    ⟨(some 11), .mov (.t 31), none, []⟩] [10, 11])
  .ret)))
def f63 : VFn := ⟨5, 32, f63_c, [.t 10, .t 11], false, [0]⟩
/- not lowered: 64 (runtime.boundsError).Error: no body -/
/- not lowered: 65 (runtime.boundsError).RuntimeError: no body -/
/- not lowered: 66 (runtime.errorString).Error: no body -/
/- not lowered: 67 (runtime.errorString).RuntimeError: no body -/
/- not lowered: 68 (runtime.plainError).Error: no body -/
/- not lowered: 69 (runtime.plainError).RuntimeError: no body -/
/- not lowered: 70 (runtime.errorAddressString).Error: no body -/
/- not lowered: 71 (runtime.errorAddressString).RuntimeError: no body -/
/- not lowered: 72 (*runtime.TypeAssertionError).Error: no body -/
/- not lowered: 73 (*runtime.TypeAssertionError).RuntimeError: no body -/
/- not lowered: 74 (*runtime.PanicNilError).Error: no body -/
/- not lowered: 75 (*runtime.PanicNilError).RuntimeError: no body -/
/- not lowered: 76 (*internal/abi.Type).Align: no body -/
/- not lowered: 77 (internal/runtime/maps.unhashableTypeError).Error: no body -/
/- not lowered: 78 (internal/runtime/maps.unhashableTypeError).RuntimeError: no body -/
/- not lowered: 79 (internal/abi.Kind).String: no body -/

def tab : FuncId → Option VFn := fun f => match f with
  | 2 => some f2
  | 3 => some f3
  | 4 => some f4
  | 5 => some f5
  | 6 => some f6
  | 7 => some f7
  | 8 => some f8
  | 9 => some f9
  | 10 => some f10
  | 11 => some f11
  | 12 => some f12
  | 13 => some f13
  | 14 => some f14
  | 15 => some f15
  | 16 => some f16
  | 17 => some f17
  | 18 => some f18
  | 19 => some f19
  | 20 => some f20
  | 21 => some f21
  | 22 => some f22
  | 23 => some f23
  | 24 => some f24
  | 25 => some f25
  | 26 => some f26
  | 27 => some f27
  | 28 => some f28
  | 29 => some f29
  | 30 => some f30
  | 31 => some f31
  | 32 => some f32
  | 33 => some f33
  | 34 => some f34
  | 35 => some f35
  | 36 => some f36
  | 37 => some f37
  | 38 => some f38
  | 39 => some f39
  | 40 => some f40
  | 41 => some f41
  | 42 => some f42
  | 43 => some f43
  | 44 => some f44
  | 45 => some f45
  | 46 => some f46
  | 47 => some f47
  | 48 => some f48
  | 49 => some f49
  | 50 => some f50
  | 51 => some f51
  | 52 => some f52
  | 53 => some f53
  | 54 => some f54
  | 55 => some f55
  | 56 => some f56
  | 57 => some f57
  | 58 => some f58
  | 59 => some f59
  | 60 => some f60
  | 61 => some f61
  | 62 => some f62
  | 63 => some f63
  | _ => none
theorem f2_ok : lowAt Try.prog [] true [] 2 = some f2 := by kernel_rfl
theorem f3_ok : lowAt Try.prog [] true [] 3 = some f3 := by kernel_rfl
theorem f4_ok : lowAt Try.prog [] true [] 4 = some f4 := by kernel_rfl
theorem f5_ok : lowAt Try.prog [] true [] 5 = some f5 := by kernel_rfl
theorem f6_ok : lowAt Try.prog [] true [] 6 = some f6 := by kernel_rfl
theorem f7_ok : lowAt Try.prog [] true [] 7 = some f7 := by kernel_rfl
theorem f8_ok : lowAt Try.prog [] true [] 8 = some f8 := by kernel_rfl
theorem f9_ok : lowAt Try.prog [] true [] 9 = some f9 := by kernel_rfl
theorem f10_ok : lowAt Try.prog [(6, (8, (0, 4)))] true [] 10 = some f10 := by kernel_rfl
theorem f11_ok : lowAt Try.prog [] true [] 11 = some f11 := by kernel_rfl
theorem f12_ok : lowAt Try.prog [] true [] 12 = some f12 := by kernel_rfl
theorem f13_ok : lowAt Try.prog [] true [] 13 = some f13 := by kernel_rfl
theorem f14_ok : lowAt Try.prog [] true [] 14 = some f14 := by kernel_rfl
theorem f15_ok : lowAt Try.prog [] true [] 15 = some f15 := by kernel_rfl
theorem f16_ok : lowAt Try.prog [] true [] 16 = some f16 := by kernel_rfl
theorem f17_ok : lowAt Try.prog [(1, (5, (0, 0)))] true [] 17 = some f17 := by kernel_rfl
theorem f18_ok : lowAt Try.prog [] true [] 18 = some f18 := by kernel_rfl
theorem f19_ok : lowAt Try.prog [] true [] 19 = some f19 := by kernel_rfl
theorem f20_ok : lowAt Try.prog [] true [] 20 = some f20 := by kernel_rfl
theorem f21_ok : lowAt Try.prog [] true [] 21 = some f21 := by kernel_rfl
theorem f22_ok : lowAt Try.prog [] true [] 22 = some f22 := by kernel_rfl
theorem f23_ok : lowAt Try.prog [] true [] 23 = some f23 := by kernel_rfl
theorem f24_ok : lowAt Try.prog [] true [] 24 = some f24 := by kernel_rfl
theorem f25_ok : lowAt Try.prog [] true [] 25 = some f25 := by kernel_rfl
theorem f26_ok : lowAt Try.prog [] true [] 26 = some f26 := by kernel_rfl
theorem f27_ok : lowAt Try.prog [] true [] 27 = some f27 := by kernel_rfl
theorem f28_ok : lowAt Try.prog [] true [] 28 = some f28 := by kernel_rfl
theorem f29_ok : lowAt Try.prog [] true [] 29 = some f29 := by kernel_rfl
theorem f30_ok : lowAt Try.prog [] true [] 30 = some f30 := by kernel_rfl
theorem f31_ok : lowAt Try.prog [(0, (1, (0, 0))), (1, (3, (0, 0)))] false [] 31 = some f31 := by kernel_rfl
theorem f32_ok : lowAt Try.prog [(0, (1, (0, 0))), (1, (3, (0, 0)))] false [] 32 = some f32 := by kernel_rfl
theorem f33_ok : lowAt Try.prog [] true [] 33 = some f33 := by kernel_rfl
theorem f34_ok : lowAt Try.prog [] true [] 34 = some f34 := by kernel_rfl
theorem f35_ok : lowAt Try.prog [] true [] 35 = some f35 := by kernel_rfl
theorem f36_ok : lowAt Try.prog [] false [0] 36 = some f36 := by kernel_rfl
theorem f37_ok : lowAt Try.prog [] true [] 37 = some f37 := by kernel_rfl
theorem f38_ok : lowAt Try.prog [] true [] 38 = some f38 := by kernel_rfl
theorem f39_ok : lowAt Try.prog [] true [] 39 = some f39 := by kernel_rfl
theorem f40_ok : lowAt Try.prog [] true [] 40 = some f40 := by kernel_rfl
theorem f41_ok : lowAt Try.prog [] true [] 41 = some f41 := by kernel_rfl
theorem f42_ok : lowAt Try.prog [] true [] 42 = some f42 := by kernel_rfl
theorem f43_ok : lowAt Try.prog [] true [] 43 = some f43 := by kernel_rfl
theorem f44_ok : lowAt Try.prog [] false [0] 44 = some f44 := by kernel_rfl
theorem f45_ok : lowAt Try.prog [] true [] 45 = some f45 := by kernel_rfl
theorem f46_ok : lowAt Try.prog [] true [] 46 = some f46 := by kernel_rfl
theorem f47_ok : lowAt Try.prog [] true [] 47 = some f47 := by kernel_rfl
theorem f48_ok : lowAt Try.prog [] false [0] 48 = some f48 := by kernel_rfl
theorem f49_ok : lowAt Try.prog [] false [0] 49 = some f49 := by kernel_rfl
theorem f50_ok : lowAt Try.prog [] false [0] 50 = some f50 := by kernel_rfl
theorem f51_ok : lowAt Try.prog [] false [0] 51 = some f51 := by kernel_rfl
theorem f52_ok : lowAt Try.prog [] false [0] 52 = some f52 := by kernel_rfl
theorem f53_ok : lowAt Try.prog [] false [0] 53 = some f53 := by kernel_rfl
theorem f54_ok : lowAt Try.prog [] false [0] 54 = some f54 := by kernel_rfl
theorem f55_ok : lowAt Try.prog [] false [0] 55 = some f55 := by kernel_rfl
theorem f56_ok : lowAt Try.prog [] true [] 56 = some f56 := by kernel_rfl
theorem f57_ok : lowAt Try.prog [] true [] 57 = some f57 := by kernel_rfl
theorem f58_ok : lowAt Try.prog [] false [0] 58 = some f58 := by kernel_rfl
theorem f59_ok : lowAt Try.prog [] true [] 59 = some f59 := by kernel_rfl
theorem f60_ok : lowAt Try.prog [] true [] 60 = some f60 := by kernel_rfl
theorem f61_ok : lowAt Try.prog [] false [0] 61 = some f61 := by kernel_rfl
theorem f62_ok : lowAt Try.prog [] false [0] 62 = some f62 := by kernel_rfl
theorem f63_ok : lowAt Try.prog [] false [0] 63 = some f63 := by kernel_rfl
theorem tab_ok : TableOk Try.prog tab := by
  intro f vf h
  unfold tab at h
  split at h
  · cases h; exact lowAt_ok f2_ok
  · cases h; exact lowAt_ok f3_ok
  · cases h; exact lowAt_ok f4_ok
  · cases h; exact lowAt_ok f5_ok
  · cases h; exact lowAt_ok f6_ok
  · cases h; exact lowAt_ok f7_ok
  · cases h; exact lowAt_ok f8_ok
  · cases h; exact lowAt_ok f9_ok
  · cases h; exact lowAt_ok f10_ok
  · cases h; exact lowAt_ok f11_ok
  · cases h; exact lowAt_ok f12_ok
  · cases h; exact lowAt_ok f13_ok
  · cases h; exact lowAt_ok f14_ok
  · cases h; exact lowAt_ok f15_ok
  · cases h; exact lowAt_ok f16_ok
  · cases h; exact lowAt_ok f17_ok
  · cases h; exact lowAt_ok f18_ok
  · cases h; exact lowAt_ok f19_ok
  · cases h; exact lowAt_ok f20_ok
  · cases h; exact lowAt_ok f21_ok
  · cases h; exact lowAt_ok f22_ok
  · cases h; exact lowAt_ok f23_ok
  · cases h; exact lowAt_ok f24_ok
  · cases h; exact lowAt_ok f25_ok
  · cases h; exact lowAt_ok f26_ok
  · cases h; exact lowAt_ok f27_ok
  · cases h; exact lowAt_ok f28_ok
  · cases h; exact lowAt_ok f29_ok
  · cases h; exact lowAt_ok f30_ok
  · cases h; exact lowAt_ok f31_ok
  · cases h; exact lowAt_ok f32_ok
  · cases h; exact lowAt_ok f33_ok
  · cases h; exact lowAt_ok f34_ok
  · cases h; exact lowAt_ok f35_ok
  · cases h; exact lowAt_ok f36_ok
  · cases h; exact lowAt_ok f37_ok
  · cases h; exact lowAt_ok f38_ok
  · cases h; exact lowAt_ok f39_ok
  · cases h; exact lowAt_ok f40_ok
  · cases h; exact lowAt_ok f41_ok
  · cases h; exact lowAt_ok f42_ok
  · cases h; exact lowAt_ok f43_ok
  · cases h; exact lowAt_ok f44_ok
  · cases h; exact lowAt_ok f45_ok
  · cases h; exact lowAt_ok f46_ok
  · cases h; exact lowAt_ok f47_ok
  · cases h; exact lowAt_ok f48_ok
  · cases h; exact lowAt_ok f49_ok
  · cases h; exact lowAt_ok f50_ok
  · cases h; exact lowAt_ok f51_ok
  · cases h; exact lowAt_ok f52_ok
  · cases h; exact lowAt_ok f53_ok
  · cases h; exact lowAt_ok f54_ok
  · cases h; exact lowAt_ok f55_ok
  · cases h; exact lowAt_ok f56_ok
  · cases h; exact lowAt_ok f57_ok
  · cases h; exact lowAt_ok f58_ok
  · cases h; exact lowAt_ok f59_ok
  · cases h; exact lowAt_ok f60_ok
  · cases h; exact lowAt_ok f61_ok
  · cases h; exact lowAt_ok f62_ok
  · cases h; exact lowAt_ok f63_ok
  · cases h
end Go.Proofs.Ytgoalemieifcdaa.V
