/- The functions of this seat, as the evaluator has them (printed by wip/v/VG.lean). -/
import Derived.Test.YtlijicnknhopkaaDoorChecked
import Derived.Test.YtlijicnknhopkaaDoorV26
import Derived.Test.YtlijicnknhopkaaDoorV35
namespace Go.Proofs.YtlijicnknhopkaaDoor.V
open Go
set_option linter.unusedVariables false
set_option linter.unusedSimpArgs false
set_option linter.unusedSectionVars false
/- not lowered: 0 main.main: no body -/
/- not lowered: 1 gosem.cut: no body -/
/- gosem.cut.init -/
def f2_c : VCode :=
  (.reg false [⟨(some 0), .call (.c (.func (.func 1) [] [])) [], none, []⟩] [])
def f2 : VFn := ⟨0, 1, f2_c, [], true, []⟩
/- caliper/caliperlaw02.NatRests -/
def f3_c : VCode :=
  (.seq (.reg false [⟨(some 4), .mov (.c (.bool false)), none, []⟩] [0, 1])
  (.seq (.seq (.reg false [⟨(some 14), .mov (.t 0), none, []⟩,
    ⟨(some 15), .call (.c (.func (.func 9) [] [])) [(.t 14)], none, []⟩,
    ⟨(some 16), .bin .neq (.t 15) (.c (.int .i64 0)), none, []⟩,
    ⟨(some 17), .mov (.t 16), none, []⟩,
    ⟨(some 18), .mov (.t 1), (some (17, false)), []⟩,
    ⟨(some 19), .call (.c (.func (.func 9) [] [])) [(.t 18)], (some (17, false)), []⟩,
    ⟨(some 20), .bin .neq (.t 19) (.c (.int .i64 0)), (some (17, false)), []⟩,
    ⟨(some 21), .pick (.t 17) (.c (.bool true)) (.t 20), none, []⟩,
    ⟨(some 22), .mov (.t 21), none, []⟩,
    ⟨(some 23), .mov (.t 0), (some (22, false)), []⟩,
    ⟨(some 24), .len (.t 23), (some (22, false)), []⟩,
    ⟨(some 25), .mov (.t 1), (some (22, false)), []⟩,
    ⟨(some 26), .len (.t 25), (some (22, false)), []⟩,
    ⟨(some 27), .bin .add (.t 24) (.t 26), (some (22, false)), []⟩,
    ⟨(some 28), .bin .gtr (.t 27) (.c (.int .i64 200)), (some (22, false)), []⟩,
    ⟨(some 29), .pick (.t 22) (.c (.bool true)) (.t 28), none, []⟩] [0, 1, 29])
  (.cond (.t 29) (.seq (.reg false [⟨(some 30), .call (.c (.func (.func 10) [] [])) [], none, []⟩,
    ⟨(some 4), .mov (.t 30), none, []⟩] [4])
  .ret) .skip))
  (.seq (.reg false [⟨(some 32), .mov (.t 0), none, []⟩,
    ⟨(some 33), .mov (.t 1), none, []⟩,
    ⟨(some 34), .call (.c (.func (.func 11) [] [])) [(.t 32), (.t 33)], none, []⟩,
    ⟨(some 31), .mov (.t 34), none, []⟩,
    ⟨(some 35), .extract (.t 31) 0, none, []⟩,
    ⟨(some 36), .extract (.t 31) 1, none, []⟩,
    ⟨(some 37), .extract (.t 31) 2, none, []⟩,
    ⟨(some 5), .mov (.t 35), none, []⟩,
    ⟨(some 6), .mov (.t 36), none, []⟩,
    ⟨(some 7), .mov (.t 37), none, []⟩] [0, 1, 5, 6, 7])
  (.seq (.seq (.reg false [⟨(some 38), .mov (.t 1), none, []⟩,
    ⟨(some 39), .len (.t 38), none, []⟩,
    ⟨(some 40), .bin .eql (.t 39) (.c (.int .i64 0)), none, []⟩] [0, 1, 5, 6, 7, 40])
  (.cond (.t 40) (.seq (.reg false [⟨(some 41), .mov (.t 7), none, []⟩,
    ⟨(some 42), .bin .eql (.t 41) (.c (.int .i64 20)), none, []⟩,
    ⟨(some 43), .mov (.t 42), none, []⟩,
    ⟨(some 44), .call (.c (.func (.func 10) [] [])) [], (some (43, true)), []⟩,
    ⟨(some 45), .pick (.t 43) (.t 44) (.c (.bool false)), none, []⟩,
    ⟨(some 4), .mov (.t 45), none, []⟩] [4])
  .ret) .skip))
  (.seq (.reg false [⟨(some 47), .mov (.t 5), none, []⟩,
    ⟨(some 48), .mov (.t 1), none, []⟩,
    ⟨(some 49), .call (.c (.func (.func 12) [] [])) [(.t 47), (.t 48)], none, []⟩,
    ⟨(some 46), .mov (.t 49), none, []⟩,
    ⟨(some 50), .extract (.t 46) 0, none, []⟩,
    ⟨(some 51), .extract (.t 46) 1, none, []⟩,
    ⟨(some 8), .mov (.t 50), none, []⟩,
    ⟨(some 9), .mov (.t 51), none, []⟩] [0, 1, 6, 7, 8])
  (.seq (.reg false [⟨(some 53), .mov (.t 8), none, []⟩,
    ⟨(some 54), .mov (.t 6), none, []⟩,
    ⟨(some 55), .call (.c (.func (.func 13) [] [])) [(.t 53), (.t 54)], none, []⟩,
    ⟨(some 52), .mov (.t 55), none, []⟩,
    ⟨(some 56), .extract (.t 52) 0, none, []⟩,
    ⟨(some 57), .extract (.t 52) 1, none, []⟩,
    ⟨(some 10), .mov (.t 56), none, []⟩,
    ⟨(some 11), .mov (.t 57), none, []⟩] [0, 1, 6, 7, 10])
  (.seq (.reg false [⟨(some 59), .mov (.t 6), none, []⟩,
    ⟨(some 60), .mov (.t 1), none, []⟩,
    ⟨(some 61), .call (.c (.func (.func 14) [] [])) [(.t 59), (.t 60)], none, []⟩,
    ⟨(some 58), .mov (.t 61), none, []⟩,
    ⟨(some 62), .extract (.t 58) 0, none, []⟩,
    ⟨(some 63), .extract (.t 58) 1, none, []⟩,
    ⟨(some 12), .mov (.t 62), none, []⟩,
    ⟨(some 13), .mov (.t 63), none, []⟩] [0, 7, 10, 12, 13])
  (.seq (.reg false [⟨(some 64), .mov (.t 7), none, []⟩,
    ⟨(some 65), .bin .eql (.t 64) (.c (.int .i64 0)), none, []⟩,
    ⟨(some 66), .mov (.t 65), none, []⟩,
    ⟨(some 67), .mov (.t 13), (some (66, true)), []⟩,
    ⟨(some 68), .bin .eql (.t 67) (.c (.int .i64 0)), (some (66, true)), []⟩,
    ⟨(some 69), .pick (.t 66) (.t 68) (.c (.bool false)), none, []⟩,
    ⟨(some 70), .mov (.t 69), none, []⟩,
    ⟨(some 71), .mov (.t 12), (some (70, true)), []⟩,
    ⟨(some 72), .bin .lss (.t 71) (.c (.int .i64 0)), (some (70, true)), []⟩,
    ⟨(some 73), .pick (.t 70) (.t 72) (.c (.bool false)), none, []⟩,
    ⟨(some 74), .mov (.t 73), none, []⟩,
    ⟨(some 75), .mov (.t 10), (some (74, true)), []⟩,
    ⟨(some 76), .mov (.t 0), (some (74, true)), []⟩,
    ⟨(some 77), .call (.c (.func (.func 15) [] [])) [(.t 75), (.t 76)], (some (74, true)), []⟩,
    ⟨(some 78), .pick (.t 74) (.t 77) (.c (.bool false)), none, []⟩,
    ⟨(some 79), .mov (.t 78), none, []⟩,
    ⟨(some 80), .call (.c (.func (.func 10) [] [])) [], (some (79, true)), []⟩,
    ⟨(some 81), .pick (.t 79) (.t 80) (.c (.bool false)), none, []⟩,
    ⟨(some 4), .mov (.t 81), none, []⟩] [4])
  .ret))))))))
def f3 : VFn := ⟨2, 82, f3_c, [.t 4], true, []⟩
/- caliper/caliperlaw02.NatRing -/
def f4_c : VCode :=
  (.seq (.reg false [⟨(some 6), .mov (.c (.bool false)), none, []⟩] [0, 1, 2])
  (.seq (.seq (.reg false [⟨(some 29), .mov (.t 0), none, []⟩,
    ⟨(some 30), .call (.c (.func (.func 9) [] [])) [(.t 29)], none, []⟩,
    ⟨(some 31), .bin .neq (.t 30) (.c (.int .i64 0)), none, []⟩,
    ⟨(some 32), .mov (.t 31), none, []⟩,
    ⟨(some 33), .mov (.t 1), (some (32, false)), []⟩,
    ⟨(some 34), .call (.c (.func (.func 9) [] [])) [(.t 33)], (some (32, false)), []⟩,
    ⟨(some 35), .bin .neq (.t 34) (.c (.int .i64 0)), (some (32, false)), []⟩,
    ⟨(some 36), .pick (.t 32) (.c (.bool true)) (.t 35), none, []⟩,
    ⟨(some 37), .mov (.t 36), none, []⟩,
    ⟨(some 38), .mov (.t 2), (some (37, false)), []⟩,
    ⟨(some 39), .call (.c (.func (.func 9) [] [])) [(.t 38)], (some (37, false)), []⟩,
    ⟨(some 40), .bin .neq (.t 39) (.c (.int .i64 0)), (some (37, false)), []⟩,
    ⟨(some 41), .pick (.t 37) (.c (.bool true)) (.t 40), none, []⟩,
    ⟨(some 42), .mov (.t 41), none, []⟩,
    ⟨(some 43), .mov (.t 0), (some (42, false)), []⟩,
    ⟨(some 44), .len (.t 43), (some (42, false)), []⟩,
    ⟨(some 45), .mov (.t 1), (some (42, false)), []⟩,
    ⟨(some 46), .len (.t 45), (some (42, false)), []⟩,
    ⟨(some 47), .bin .add (.t 44) (.t 46), (some (42, false)), []⟩,
    ⟨(some 48), .mov (.t 2), (some (42, false)), []⟩,
    ⟨(some 49), .len (.t 48), (some (42, false)), []⟩,
    ⟨(some 50), .bin .add (.t 47) (.t 49), (some (42, false)), []⟩,
    ⟨(some 51), .bin .gtr (.t 50) (.c (.int .i64 200)), (some (42, false)), []⟩,
    ⟨(some 52), .pick (.t 42) (.c (.bool true)) (.t 51), none, []⟩] [0, 1, 2, 52])
  (.cond (.t 52) (.seq (.reg false [⟨(some 53), .call (.c (.func (.func 10) [] [])) [], none, []⟩,
    ⟨(some 6), .mov (.t 53), none, []⟩] [6])
  .ret) .skip))
  (.seq (.reg false [⟨(some 55), .mov (.t 0), none, []⟩,
    ⟨(some 56), .mov (.t 1), none, []⟩,
    ⟨(some 57), .call (.c (.func (.func 13) [] [])) [(.t 55), (.t 56)], none, []⟩,
    ⟨(some 54), .mov (.t 57), none, []⟩,
    ⟨(some 58), .extract (.t 54) 0, none, []⟩,
    ⟨(some 59), .extract (.t 54) 1, none, []⟩,
    ⟨(some 7), .mov (.t 58), none, []⟩,
    ⟨(some 8), .mov (.t 59), none, []⟩] [0, 1, 2, 7])
  (.seq (.reg false [⟨(some 61), .mov (.t 1), none, []⟩,
    ⟨(some 62), .mov (.t 0), none, []⟩,
    ⟨(some 63), .call (.c (.func (.func 13) [] [])) [(.t 61), (.t 62)], none, []⟩,
    ⟨(some 60), .mov (.t 63), none, []⟩,
    ⟨(some 64), .extract (.t 60) 0, none, []⟩,
    ⟨(some 65), .extract (.t 60) 1, none, []⟩,
    ⟨(some 9), .mov (.t 64), none, []⟩,
    ⟨(some 10), .mov (.t 65), none, []⟩] [0, 1, 2, 7, 9])
  (.seq (.reg false [⟨(some 67), .mov (.t 1), none, []⟩,
    ⟨(some 68), .mov (.t 2), none, []⟩,
    ⟨(some 69), .call (.c (.func (.func 13) [] [])) [(.t 67), (.t 68)], none, []⟩,
    ⟨(some 66), .mov (.t 69), none, []⟩,
    ⟨(some 70), .extract (.t 66) 0, none, []⟩,
    ⟨(some 71), .extract (.t 66) 1, none, []⟩,
    ⟨(some 11), .mov (.t 70), none, []⟩,
    ⟨(some 12), .mov (.t 71), none, []⟩] [0, 1, 2, 7, 9, 11])
  (.seq (.reg false [⟨(some 73), .mov (.t 7), none, []⟩,
    ⟨(some 74), .mov (.t 2), none, []⟩,
    ⟨(some 75), .call (.c (.func (.func 13) [] [])) [(.t 73), (.t 74)], none, []⟩,
    ⟨(some 72), .mov (.t 75), none, []⟩,
    ⟨(some 76), .extract (.t 72) 0, none, []⟩,
    ⟨(some 77), .extract (.t 72) 1, none, []⟩,
    ⟨(some 13), .mov (.t 76), none, []⟩,
    ⟨(some 14), .mov (.t 77), none, []⟩] [0, 1, 2, 7, 9, 11, 13])
  (.seq (.reg false [⟨(some 79), .mov (.t 0), none, []⟩,
    ⟨(some 80), .mov (.t 11), none, []⟩,
    ⟨(some 81), .call (.c (.func (.func 13) [] [])) [(.t 79), (.t 80)], none, []⟩,
    ⟨(some 78), .mov (.t 81), none, []⟩,
    ⟨(some 82), .extract (.t 78) 0, none, []⟩,
    ⟨(some 83), .extract (.t 78) 1, none, []⟩,
    ⟨(some 15), .mov (.t 82), none, []⟩,
    ⟨(some 16), .mov (.t 83), none, []⟩] [0, 1, 2, 7, 9, 11, 13, 15])
  (.seq (.reg false [⟨(some 85), .mov (.t 0), none, []⟩,
    ⟨(some 86), .mov (.t 1), none, []⟩,
    ⟨(some 87), .call (.c (.func (.func 12) [] [])) [(.t 85), (.t 86)], none, []⟩,
    ⟨(some 84), .mov (.t 87), none, []⟩,
    ⟨(some 88), .extract (.t 84) 0, none, []⟩,
    ⟨(some 89), .extract (.t 84) 1, none, []⟩,
    ⟨(some 17), .mov (.t 88), none, []⟩,
    ⟨(some 18), .mov (.t 89), none, []⟩] [0, 1, 2, 7, 9, 11, 13, 15, 17])
  (.seq (.reg false [⟨(some 91), .mov (.t 1), none, []⟩,
    ⟨(some 92), .mov (.t 0), none, []⟩,
    ⟨(some 93), .call (.c (.func (.func 12) [] [])) [(.t 91), (.t 92)], none, []⟩,
    ⟨(some 90), .mov (.t 93), none, []⟩,
    ⟨(some 94), .extract (.t 90) 0, none, []⟩,
    ⟨(some 95), .extract (.t 90) 1, none, []⟩,
    ⟨(some 19), .mov (.t 94), none, []⟩,
    ⟨(some 20), .mov (.t 95), none, []⟩] [0, 1, 2, 7, 9, 11, 13, 15, 17, 19])
  (.seq (.reg false [⟨(some 97), .mov (.t 0), none, []⟩,
    ⟨(some 98), .mov (.t 11), none, []⟩,
    ⟨(some 99), .call (.c (.func (.func 12) [] [])) [(.t 97), (.t 98)], none, []⟩,
    ⟨(some 96), .mov (.t 99), none, []⟩,
    ⟨(some 100), .extract (.t 96) 0, none, []⟩,
    ⟨(some 101), .extract (.t 96) 1, none, []⟩,
    ⟨(some 21), .mov (.t 100), none, []⟩,
    ⟨(some 22), .mov (.t 101), none, []⟩] [0, 1, 2, 7, 9, 13, 15, 17, 19, 21])
  (.seq (.reg false [⟨(some 103), .mov (.t 0), none, []⟩,
    ⟨(some 104), .mov (.t 2), none, []⟩,
    ⟨(some 105), .call (.c (.func (.func 12) [] [])) [(.t 103), (.t 104)], none, []⟩,
    ⟨(some 102), .mov (.t 105), none, []⟩,
    ⟨(some 106), .extract (.t 102) 0, none, []⟩,
    ⟨(some 107), .extract (.t 102) 1, none, []⟩,
    ⟨(some 23), .mov (.t 106), none, []⟩,
    ⟨(some 24), .mov (.t 107), none, []⟩] [0, 1, 7, 9, 13, 15, 17, 19, 21, 23])
  (.seq (.reg false [⟨(some 109), .mov (.t 17), none, []⟩,
    ⟨(some 110), .mov (.t 23), none, []⟩,
    ⟨(some 111), .call (.c (.func (.func 13) [] [])) [(.t 109), (.t 110)], none, []⟩,
    ⟨(some 108), .mov (.t 111), none, []⟩,
    ⟨(some 112), .extract (.t 108) 0, none, []⟩,
    ⟨(some 113), .extract (.t 108) 1, none, []⟩,
    ⟨(some 25), .mov (.t 112), none, []⟩,
    ⟨(some 26), .mov (.t 113), none, []⟩] [0, 1, 7, 9, 13, 15, 17, 19, 21, 25])
  (.seq (.reg false [⟨(some 115), .mov (.t 7), none, []⟩,
    ⟨(some 116), .mov (.t 1), none, []⟩,
    ⟨(some 117), .call (.c (.func (.func 16) [] [])) [(.t 115), (.t 116)], none, []⟩,
    ⟨(some 114), .mov (.t 117), none, []⟩,
    ⟨(some 118), .extract (.t 114) 0, none, []⟩,
    ⟨(some 119), .extract (.t 114) 1, none, []⟩,
    ⟨(some 27), .mov (.t 118), none, []⟩,
    ⟨(some 28), .mov (.t 119), none, []⟩] [0, 7, 9, 13, 15, 17, 19, 21, 25, 27, 28])
  (.seq (.reg false [⟨(some 120), .mov (.t 7), none, []⟩,
    ⟨(some 121), .mov (.t 9), none, []⟩,
    ⟨(some 122), .call (.c (.func (.func 15) [] [])) [(.t 120), (.t 121)], none, []⟩,
    ⟨(some 123), .mov (.t 122), none, []⟩,
    ⟨(some 124), .mov (.t 13), (some (123, true)), []⟩,
    ⟨(some 125), .mov (.t 15), (some (123, true)), []⟩,
    ⟨(some 126), .call (.c (.func (.func 15) [] [])) [(.t 124), (.t 125)], (some (123, true)), []⟩,
    ⟨(some 127), .pick (.t 123) (.t 126) (.c (.bool false)), none, []⟩,
    ⟨(some 128), .mov (.t 127), none, []⟩,
    ⟨(some 129), .mov (.t 17), (some (128, true)), []⟩,
    ⟨(some 130), .mov (.t 19), (some (128, true)), []⟩,
    ⟨(some 131), .call (.c (.func (.func 15) [] [])) [(.t 129), (.t 130)], (some (128, true)), []⟩,
    ⟨(some 132), .pick (.t 128) (.t 131) (.c (.bool false)), none, []⟩,
    ⟨(some 133), .mov (.t 132), none, []⟩,
    ⟨(some 134), .mov (.t 21), (some (133, true)), []⟩,
    ⟨(some 135), .mov (.t 25), (some (133, true)), []⟩,
    ⟨(some 136), .call (.c (.func (.func 15) [] [])) [(.t 134), (.t 135)], (some (133, true)), []⟩,
    ⟨(some 137), .pick (.t 133) (.t 136) (.c (.bool false)), none, []⟩,
    ⟨(some 138), .mov (.t 137), none, []⟩,
    ⟨(some 139), .mov (.t 28), (some (138, true)), []⟩,
    ⟨(some 140), .bin .eql (.t 139) (.c (.int .i64 0)), (some (138, true)), []⟩,
    ⟨(some 141), .pick (.t 138) (.t 140) (.c (.bool false)), none, []⟩,
    ⟨(some 142), .mov (.t 141), none, []⟩,
    ⟨(some 143), .mov (.t 27), (some (142, true)), []⟩,
    ⟨(some 144), .mov (.t 0), (some (142, true)), []⟩,
    ⟨(some 145), .call (.c (.func (.func 15) [] [])) [(.t 143), (.t 144)], (some (142, true)), []⟩,
    ⟨(some 146), .pick (.t 142) (.t 145) (.c (.bool false)), none, []⟩,
    ⟨(some 147), .mov (.t 146), none, []⟩,
    ⟨(some 148), .mov (.t 21), (some (147, true)), []⟩,
    ⟨(some 149), .call (.c (.func (.func 9) [] [])) [(.t 148)], (some (147, true)), []⟩,
    ⟨(some 150), .bin .eql (.t 149) (.c (.int .i64 0)), (some (147, true)), []⟩,
    ⟨(some 151), .pick (.t 147) (.t 150) (.c (.bool false)), none, []⟩,
    ⟨(some 152), .mov (.t 151), none, []⟩,
    ⟨(some 153), .call (.c (.func (.func 10) [] [])) [], (some (152, true)), []⟩,
    ⟨(some 154), .pick (.t 152) (.t 153) (.c (.bool false)), none, []⟩,
    ⟨(some 6), .mov (.t 154), none, []⟩] [6])
  .ret))))))))))))))
def f4 : VFn := ⟨3, 155, f4_c, [.t 6], true, []⟩
/- caliper/caliperlaw02.NatPowers -/
def f5_c : VCode :=
  (.seq (.reg false [⟨(some 8), .mov (.c (.bool false)), none, []⟩] [0, 1, 2, 3])
  (.seq (.seq (.reg false [⟨(some 20), .mov (.t 0), none, []⟩,
    ⟨(some 21), .call (.c (.func (.func 9) [] [])) [(.t 20)], none, []⟩,
    ⟨(some 22), .bin .neq (.t 21) (.c (.int .i64 0)), none, []⟩,
    ⟨(some 23), .mov (.t 22), none, []⟩,
    ⟨(some 24), .mov (.t 3), (some (23, false)), []⟩,
    ⟨(some 25), .call (.c (.func (.func 9) [] [])) [(.t 24)], (some (23, false)), []⟩,
    ⟨(some 26), .bin .neq (.t 25) (.c (.int .i64 0)), (some (23, false)), []⟩,
    ⟨(some 27), .pick (.t 23) (.c (.bool true)) (.t 26), none, []⟩,
    ⟨(some 28), .mov (.t 27), none, []⟩,
    ⟨(some 29), .mov (.t 3), (some (28, false)), []⟩,
    ⟨(some 30), .len (.t 29), (some (28, false)), []⟩,
    ⟨(some 31), .bin .eql (.t 30) (.c (.int .i64 0)), (some (28, false)), []⟩,
    ⟨(some 32), .pick (.t 28) (.c (.bool true)) (.t 31), none, []⟩,
    ⟨(some 33), .mov (.t 32), none, []⟩,
    ⟨(some 34), .mov (.t 0), (some (33, false)), []⟩,
    ⟨(some 35), .len (.t 34), (some (33, false)), []⟩,
    ⟨(some 36), .bin .gtr (.t 35) (.c (.int .i64 20)), (some (33, false)), []⟩,
    ⟨(some 37), .pick (.t 33) (.c (.bool true)) (.t 36), none, []⟩,
    ⟨(some 38), .mov (.t 37), none, []⟩,
    ⟨(some 39), .mov (.t 3), (some (38, false)), []⟩,
    ⟨(some 40), .len (.t 39), (some (38, false)), []⟩,
    ⟨(some 41), .bin .gtr (.t 40) (.c (.int .i64 20)), (some (38, false)), []⟩,
    ⟨(some 42), .pick (.t 38) (.c (.bool true)) (.t 41), none, []⟩,
    ⟨(some 43), .mov (.t 42), none, []⟩,
    ⟨(some 44), .mov (.t 1), (some (43, false)), []⟩,
    ⟨(some 45), .bin .lss (.t 44) (.c (.int .i64 0)), (some (43, false)), []⟩,
    ⟨(some 46), .pick (.t 43) (.c (.bool true)) (.t 45), none, []⟩,
    ⟨(some 47), .mov (.t 46), none, []⟩,
    ⟨(some 48), .mov (.t 2), (some (47, false)), []⟩,
    ⟨(some 49), .bin .lss (.t 48) (.c (.int .i64 0)), (some (47, false)), []⟩,
    ⟨(some 50), .pick (.t 47) (.c (.bool true)) (.t 49), none, []⟩,
    ⟨(some 51), .mov (.t 50), none, []⟩,
    ⟨(some 52), .mov (.t 1), (some (51, false)), []⟩,
    ⟨(some 53), .bin .gtr (.t 52) (.c (.int .i64 1000)), (some (51, false)), []⟩,
    ⟨(some 54), .pick (.t 51) (.c (.bool true)) (.t 53), none, []⟩,
    ⟨(some 55), .mov (.t 54), none, []⟩,
    ⟨(some 56), .mov (.t 2), (some (55, false)), []⟩,
    ⟨(some 57), .bin .gtr (.t 56) (.c (.int .i64 1000)), (some (55, false)), []⟩,
    ⟨(some 58), .pick (.t 55) (.c (.bool true)) (.t 57), none, []⟩] [0, 1, 2, 3, 58])
  (.cond (.t 58) (.seq (.reg false [⟨(some 59), .call (.c (.func (.func 10) [] [])) [], none, []⟩,
    ⟨(some 8), .mov (.t 59), none, []⟩] [8])
  .ret) .skip))
  (.seq (.reg false [⟨(some 61), .mov (.t 0), none, []⟩,
    ⟨(some 62), .mov (.t 1), none, []⟩,
    ⟨(some 63), .mov (.t 3), none, []⟩,
    ⟨(some 64), .call (.c (.func (.func 17) [] [])) [(.t 61), (.t 62), (.t 63)], none, []⟩,
    ⟨(some 60), .mov (.t 64), none, []⟩,
    ⟨(some 65), .extract (.t 60) 0, none, []⟩,
    ⟨(some 66), .extract (.t 60) 1, none, []⟩,
    ⟨(some 9), .mov (.t 65), none, []⟩,
    ⟨(some 10), .mov (.t 66), none, []⟩] [0, 1, 2, 3, 9, 10])
  (.seq (.reg false [⟨(some 68), .mov (.t 0), none, []⟩,
    ⟨(some 69), .mov (.t 2), none, []⟩,
    ⟨(some 70), .mov (.t 3), none, []⟩,
    ⟨(some 71), .call (.c (.func (.func 17) [] [])) [(.t 68), (.t 69), (.t 70)], none, []⟩,
    ⟨(some 67), .mov (.t 71), none, []⟩,
    ⟨(some 72), .extract (.t 67) 0, none, []⟩,
    ⟨(some 73), .extract (.t 67) 1, none, []⟩,
    ⟨(some 11), .mov (.t 72), none, []⟩,
    ⟨(some 12), .mov (.t 73), none, []⟩] [0, 1, 2, 3, 9, 10, 11, 12])
  (.seq (.reg false [⟨(some 75), .mov (.t 0), none, []⟩,
    ⟨(some 76), .mov (.t 1), none, []⟩,
    ⟨(some 77), .mov (.t 2), none, []⟩,
    ⟨(some 78), .bin .add (.t 76) (.t 77), none, []⟩,
    ⟨(some 79), .mov (.t 3), none, []⟩,
    ⟨(some 80), .call (.c (.func (.func 17) [] [])) [(.t 75), (.t 78), (.t 79)], none, []⟩,
    ⟨(some 74), .mov (.t 80), none, []⟩,
    ⟨(some 81), .extract (.t 74) 0, none, []⟩,
    ⟨(some 82), .extract (.t 74) 1, none, []⟩,
    ⟨(some 13), .mov (.t 81), none, []⟩,
    ⟨(some 14), .mov (.t 82), none, []⟩] [3, 9, 10, 11, 12, 13, 14])
  (.seq (.reg false [⟨(some 84), .mov (.t 9), none, []⟩,
    ⟨(some 85), .mov (.t 11), none, []⟩,
    ⟨(some 86), .call (.c (.func (.func 12) [] [])) [(.t 84), (.t 85)], none, []⟩,
    ⟨(some 83), .mov (.t 86), none, []⟩,
    ⟨(some 87), .extract (.t 83) 0, none, []⟩,
    ⟨(some 88), .extract (.t 83) 1, none, []⟩,
    ⟨(some 15), .mov (.t 87), none, []⟩,
    ⟨(some 16), .mov (.t 88), none, []⟩] [3, 10, 12, 13, 14, 15])
  (.seq (.reg false [⟨(some 90), .mov (.t 15), none, []⟩,
    ⟨(some 91), .mov (.t 3), none, []⟩,
    ⟨(some 92), .call (.c (.func (.func 11) [] [])) [(.t 90), (.t 91)], none, []⟩,
    ⟨(some 89), .mov (.t 92), none, []⟩,
    ⟨(some 93), .extract (.t 89) 0, none, []⟩,
    ⟨(some 94), .extract (.t 89) 1, none, []⟩,
    ⟨(some 95), .extract (.t 89) 2, none, []⟩,
    ⟨(some 17), .mov (.t 93), none, []⟩,
    ⟨(some 18), .mov (.t 94), none, []⟩,
    ⟨(some 19), .mov (.t 95), none, []⟩] [10, 12, 13, 14, 18, 19])
  (.seq (.reg false [⟨(some 96), .mov (.t 10), none, []⟩,
    ⟨(some 97), .bin .eql (.t 96) (.c (.int .i64 0)), none, []⟩,
    ⟨(some 98), .mov (.t 97), none, []⟩,
    ⟨(some 99), .mov (.t 12), (some (98, true)), []⟩,
    ⟨(some 100), .mov (.t 10), (some (98, true)), []⟩,
    ⟨(some 101), .bin .eql (.t 99) (.t 100), (some (98, true)), []⟩,
    ⟨(some 102), .pick (.t 98) (.t 101) (.c (.bool false)), none, []⟩,
    ⟨(some 103), .mov (.t 102), none, []⟩,
    ⟨(some 104), .mov (.t 14), (some (103, true)), []⟩,
    ⟨(some 105), .mov (.t 10), (some (103, true)), []⟩,
    ⟨(some 106), .bin .eql (.t 104) (.t 105), (some (103, true)), []⟩,
    ⟨(some 107), .pick (.t 103) (.t 106) (.c (.bool false)), none, []⟩,
    ⟨(some 108), .mov (.t 107), none, []⟩,
    ⟨(some 109), .mov (.t 19), (some (108, true)), []⟩,
    ⟨(some 110), .mov (.t 10), (some (108, true)), []⟩,
    ⟨(some 111), .bin .eql (.t 109) (.t 110), (some (108, true)), []⟩,
    ⟨(some 112), .pick (.t 108) (.t 111) (.c (.bool false)), none, []⟩,
    ⟨(some 113), .mov (.t 112), none, []⟩,
    ⟨(some 114), .mov (.t 18), (some (113, true)), []⟩,
    ⟨(some 115), .mov (.t 13), (some (113, true)), []⟩,
    ⟨(some 116), .call (.c (.func (.func 15) [] [])) [(.t 114), (.t 115)], (some (113, true)), []⟩,
    ⟨(some 117), .pick (.t 113) (.t 116) (.c (.bool false)), none, []⟩,
    ⟨(some 118), .mov (.t 117), none, []⟩,
    ⟨(some 119), .call (.c (.func (.func 10) [] [])) [], (some (118, true)), []⟩,
    ⟨(some 120), .pick (.t 118) (.t 119) (.c (.bool false)), none, []⟩,
    ⟨(some 8), .mov (.t 120), none, []⟩] [8])
  .ret))))))))
def f5 : VFn := ⟨4, 121, f5_c, [.t 8], true, []⟩
/- caliper/caliperlaw02.NatReads -/
def f6_c : VCode :=
  (.seq (.reg false [⟨(some 4), .mov (.c (.bool false)), none, []⟩] [0, 1])
  (.seq (.reg false [⟨(some 14), .mov (.t 0), none, []⟩,
    ⟨(some 15), .call (.c (.func (.func 18) [] [])) [(.t 14)], none, []⟩,
    ⟨(some 13), .mov (.t 15), none, []⟩,
    ⟨(some 16), .extract (.t 13) 0, none, []⟩,
    ⟨(some 17), .extract (.t 13) 1, none, []⟩,
    ⟨(some 5), .mov (.t 16), none, []⟩,
    ⟨(some 6), .mov (.t 17), none, []⟩] [0, 1, 5, 6])
  (.seq (.reg false [⟨(some 19), .mov (.t 0), none, []⟩,
    ⟨(some 20), .call (.c (.func (.func 19) [] [])) [(.t 19)], none, []⟩,
    ⟨(some 18), .mov (.t 20), none, []⟩,
    ⟨(some 21), .extract (.t 18) 0, none, []⟩,
    ⟨(some 22), .extract (.t 18) 1, none, []⟩,
    ⟨(some 7), .mov (.t 21), none, []⟩,
    ⟨(some 8), .mov (.t 22), none, []⟩] [1, 5, 6, 7, 8])
  (.seq (.reg false [⟨(some 24), .mov (.t 1), none, []⟩,
    ⟨(some 25), .call (.c (.func (.func 20) [] [])) [(.t 24)], none, []⟩,
    ⟨(some 23), .mov (.t 25), none, []⟩,
    ⟨(some 26), .extract (.t 23) 0, none, []⟩,
    ⟨(some 27), .extract (.t 23) 1, none, []⟩,
    ⟨(some 9), .mov (.t 26), none, []⟩,
    ⟨(some 10), .mov (.t 27), none, []⟩] [1, 5, 6, 7, 8, 9, 10])
  (.seq (.reg false [⟨(some 29), .mov (.t 1), none, []⟩,
    ⟨(some 30), .call (.c (.func (.func 21) [] [])) [(.t 29)], none, []⟩,
    ⟨(some 28), .mov (.t 30), none, []⟩,
    ⟨(some 31), .extract (.t 28) 0, none, []⟩,
    ⟨(some 32), .extract (.t 28) 1, none, []⟩,
    ⟨(some 11), .mov (.t 31), none, []⟩,
    ⟨(some 12), .mov (.t 32), none, []⟩] [1, 5, 6, 7, 8, 9, 10, 11, 12])
  (.seq (.reg false [⟨(some 33), .mov (.t 5), none, []⟩,
    ⟨(some 34), .mov (.t 7), none, []⟩,
    ⟨(some 35), .call (.c (.func (.func 15) [] [])) [(.t 33), (.t 34)], none, []⟩,
    ⟨(some 36), .mov (.t 35), none, []⟩,
    ⟨(some 37), .mov (.t 6), (some (36, true)), []⟩,
    ⟨(some 38), .mov (.t 8), (some (36, true)), []⟩,
    ⟨(some 39), .bin .eql (.t 37) (.t 38), (some (36, true)), []⟩,
    ⟨(some 40), .pick (.t 36) (.t 39) (.c (.bool false)), none, []⟩,
    ⟨(some 41), .mov (.t 40), none, []⟩,
    ⟨(some 42), .mov (.t 9), (some (41, true)), []⟩,
    ⟨(some 43), .mov (.t 11), (some (41, true)), []⟩,
    ⟨(some 44), .bin .eql (.t 42) (.t 43), (some (41, true)), []⟩,
    ⟨(some 45), .pick (.t 41) (.t 44) (.c (.bool false)), none, []⟩,
    ⟨(some 46), .mov (.t 45), none, []⟩,
    ⟨(some 47), .mov (.t 10), (some (46, true)), []⟩,
    ⟨(some 48), .mov (.t 12), (some (46, true)), []⟩,
    ⟨(some 49), .bin .eql (.t 47) (.t 48), (some (46, true)), []⟩,
    ⟨(some 50), .pick (.t 46) (.t 49) (.c (.bool false)), none, []⟩,
    ⟨(some 51), .mov (.t 50), none, []⟩,
    ⟨(some 52), .mov (.t 1), (some (51, true)), []⟩,
    ⟨(some 53), .call (.c (.func (.func 9) [] [])) [(.t 52)], (some (51, true)), []⟩,
    ⟨(some 54), .mov (.t 1), (some (51, true)), []⟩,
    ⟨(some 55), .call (.c (.func (.func 22) [] [])) [(.t 54)], (some (51, true)), []⟩,
    ⟨(some 56), .bin .eql (.t 53) (.t 55), (some (51, true)), []⟩,
    ⟨(some 57), .pick (.t 51) (.t 56) (.c (.bool false)), none, []⟩,
    ⟨(some 58), .mov (.t 57), none, []⟩,
    ⟨(some 59), .call (.c (.func (.func 10) [] [])) [], (some (58, true)), []⟩,
    ⟨(some 60), .pick (.t 58) (.t 59) (.c (.bool false)), none, []⟩,
    ⟨(some 4), .mov (.t 60), none, []⟩] [4])
  .ret))))))
def f6 : VFn := ⟨2, 61, f6_c, [.t 4], true, []⟩
/- caliper/caliperlaw02.NatBack -/
def f7_c : VCode :=
  (.seq (.reg false [⟨(some 2), .mov (.c (.bool false)), none, []⟩] [0])
  (.seq (.reg false [⟨(some 10), .mov (.t 0), none, []⟩,
    ⟨(some 11), .call (.c (.func (.func 20) [] [])) [(.t 10)], none, []⟩,
    ⟨(some 9), .mov (.t 11), none, []⟩,
    ⟨(some 12), .extract (.t 9) 0, none, []⟩,
    ⟨(some 13), .extract (.t 9) 1, none, []⟩,
    ⟨(some 3), .mov (.t 12), none, []⟩,
    ⟨(some 4), .mov (.t 13), none, []⟩] [0, 3, 4])
  (.seq (.seq (.reg false [⟨(some 14), .mov (.t 0), none, []⟩,
    ⟨(some 15), .call (.c (.func (.func 9) [] [])) [(.t 14)], none, []⟩,
    ⟨(some 16), .bin .neq (.t 15) (.c (.int .i64 0)), none, []⟩] [0, 3, 4, 16])
  (.cond (.t 16) (.seq (.reg false [⟨(some 17), .mov (.t 4), none, []⟩,
    ⟨(some 18), .bin .eql (.t 17) (.c (.int .i64 2)), none, []⟩,
    ⟨(some 19), .mov (.t 18), none, []⟩,
    ⟨(some 20), .mov (.t 3), (some (19, true)), []⟩,
    ⟨(some 21), .bin .eql (.t 20) (.c (.str ⟨#[]⟩)), (some (19, true)), []⟩,
    ⟨(some 22), .pick (.t 19) (.t 21) (.c (.bool false)), none, []⟩,
    ⟨(some 23), .mov (.t 22), none, []⟩,
    ⟨(some 24), .call (.c (.func (.func 10) [] [])) [], (some (23, true)), []⟩,
    ⟨(some 25), .pick (.t 23) (.t 24) (.c (.bool false)), none, []⟩,
    ⟨(some 2), .mov (.t 25), none, []⟩] [2])
  .ret) .skip))
  (.seq (.seq (.reg false [⟨(some 26), .mov (.t 3), none, []⟩,
    ⟨(some 27), .lens (.t 26), none, []⟩,
    ⟨(some 28), .bin .gtr (.t 27) (.c (.int .i64 1048576)), none, []⟩] [0, 3, 4, 28])
  (.cond (.t 28) (.seq (.reg false [⟨(some 29), .call (.c (.func (.func 10) [] [])) [], none, []⟩,
    ⟨(some 2), .mov (.t 29), none, []⟩] [2])
  .ret) .skip))
  (.seq (.reg false [⟨(some 31), .mov (.t 3), none, []⟩,
    ⟨(some 32), .call (.c (.func (.func 18) [] [])) [(.t 31)], none, []⟩,
    ⟨(some 30), .mov (.t 32), none, []⟩,
    ⟨(some 33), .extract (.t 30) 0, none, []⟩,
    ⟨(some 34), .extract (.t 30) 1, none, []⟩,
    ⟨(some 5), .mov (.t 33), none, []⟩,
    ⟨(some 6), .mov (.t 34), none, []⟩] [0, 3, 4, 5, 6])
  (.seq (.reg false [⟨(some 36), .mov (.t 3), none, []⟩,
    ⟨(some 37), .bin .add (.c (.str ⟨#[48, 48, 48]⟩)) (.t 36), none, []⟩,
    ⟨(some 38), .call (.c (.func (.func 18) [] [])) [(.t 37)], none, []⟩,
    ⟨(some 35), .mov (.t 38), none, []⟩,
    ⟨(some 39), .extract (.t 35) 0, none, []⟩,
    ⟨(some 40), .extract (.t 35) 1, none, []⟩,
    ⟨(some 7), .mov (.t 39), none, []⟩,
    ⟨(some 8), .mov (.t 40), none, []⟩] [0, 3, 4, 5, 6, 7, 8])
  (.seq (.reg false [⟨(some 41), .mov (.t 4), none, []⟩,
    ⟨(some 42), .bin .eql (.t 41) (.c (.int .i64 0)), none, []⟩,
    ⟨(some 43), .mov (.t 42), none, []⟩,
    ⟨(some 44), .mov (.t 6), (some (43, true)), []⟩,
    ⟨(some 45), .bin .eql (.t 44) (.c (.int .i64 0)), (some (43, true)), []⟩,
    ⟨(some 46), .pick (.t 43) (.t 45) (.c (.bool false)), none, []⟩,
    ⟨(some 47), .mov (.t 46), none, []⟩,
    ⟨(some 48), .mov (.t 0), (some (47, true)), []⟩,
    ⟨(some 49), .mov (.t 5), (some (47, true)), []⟩,
    ⟨(some 50), .call (.c (.func (.func 15) [] [])) [(.t 48), (.t 49)], (some (47, true)), []⟩,
    ⟨(some 51), .pick (.t 47) (.t 50) (.c (.bool false)), none, []⟩,
    ⟨(some 52), .mov (.t 51), none, []⟩,
    ⟨(some 53), .mov (.t 8), (some (52, true)), []⟩,
    ⟨(some 54), .bin .eql (.t 53) (.c (.int .i64 0)), (some (52, true)), []⟩,
    ⟨(some 55), .mov (.t 54), (some (52, true)), []⟩,
    ⟨(some 56), .mov (.t 0), (some (55, true)), []⟩,
    ⟨(some 57), .mov (.t 7), (some (55, true)), []⟩,
    ⟨(some 58), .call (.c (.func (.func 15) [] [])) [(.t 56), (.t 57)], (some (55, true)), []⟩,
    ⟨(some 59), .pick (.t 55) (.t 58) (.c (.bool false)), (some (52, true)), []⟩,
    ⟨(some 60), .mov (.t 59), (some (52, true)), []⟩,
    ⟨(some 61), .mov (.t 3), (some (60, false)), []⟩,
    ⟨(some 62), .lens (.t 61), (some (60, false)), []⟩,
    ⟨(some 63), .bin .gtr (.t 62) (.c (.int .i64 1048573)), (some (60, false)), []⟩,
    ⟨(some 64), .pick (.t 60) (.c (.bool true)) (.t 63), (some (52, true)), []⟩,
    ⟨(some 65), .pick (.t 52) (.t 64) (.c (.bool false)), none, []⟩,
    ⟨(some 66), .mov (.t 65), none, []⟩,
    ⟨(some 67), .call (.c (.func (.func 10) [] [])) [], (some (66, true)), []⟩,
    ⟨(some 68), .pick (.t 66) (.t 67) (.c (.bool false)), none, []⟩,
    ⟨(some 2), .mov (.t 68), none, []⟩] [2])
  .ret)))))))
def f7 : VFn := ⟨1, 69, f7_c, [.t 2], true, []⟩
/- caliper/caliperlaw02.NatReckons -/
def f8_c : VCode :=
  (.seq (.reg false [⟨(some 6), .mov (.c (.bool false)), none, []⟩] [0, 1, 2])
  (.seq (.seq (.reg false [⟨(some 35), .mov (.t 0), none, []⟩,
    ⟨(some 36), .len (.t 35), none, []⟩,
    ⟨(some 37), .bin .gtr (.t 36) (.c (.int .i64 60)), none, []⟩,
    ⟨(some 38), .mov (.t 37), none, []⟩,
    ⟨(some 39), .mov (.t 1), (some (38, false)), []⟩,
    ⟨(some 40), .len (.t 39), (some (38, false)), []⟩,
    ⟨(some 41), .bin .gtr (.t 40) (.c (.int .i64 60)), (some (38, false)), []⟩,
    ⟨(some 42), .pick (.t 38) (.c (.bool true)) (.t 41), none, []⟩] [0, 1, 2, 42])
  (.cond (.t 42) (.seq (.reg false [⟨(some 43), .call (.c (.func (.func 10) [] [])) [], none, []⟩,
    ⟨(some 6), .mov (.t 43), none, []⟩] [6])
  .ret) .skip))
  (.seq (.reg false [⟨(some 44), .mov (.t 0), none, []⟩,
    ⟨(some 45), .call (.c (.func (.func 23) [] [])) [(.t 44)], none, []⟩,
    ⟨(some 46), .mov (.t 1), none, []⟩,
    ⟨(some 47), .call (.c (.func (.func 23) [] [])) [(.t 46)], none, []⟩,
    ⟨(some 7), .mov (.t 45), none, []⟩,
    ⟨(some 8), .mov (.t 47), none, []⟩] [0, 1, 2, 7, 8])
  (.seq (.reg false [⟨(some 49), .mov (.t 7), none, []⟩,
    ⟨(some 50), .mov (.t 8), none, []⟩,
    ⟨(some 51), .call (.c (.func (.func 14) [] [])) [(.t 49), (.t 50)], none, []⟩,
    ⟨(some 48), .mov (.t 51), none, []⟩,
    ⟨(some 52), .extract (.t 48) 0, none, []⟩,
    ⟨(some 53), .extract (.t 48) 1, none, []⟩,
    ⟨(some 9), .mov (.t 52), none, []⟩,
    ⟨(some 10), .mov (.t 53), none, []⟩] [0, 1, 2, 7, 8, 9, 10])
  (.seq (.reg false [⟨(some 55), .mov (.t 0), none, []⟩,
    ⟨(some 56), .mov (.t 1), none, []⟩,
    ⟨(some 57), .call (.c (.func (.func 24) [] [])) [(.t 55), (.t 56)], none, []⟩,
    ⟨(some 54), .mov (.t 57), none, []⟩,
    ⟨(some 58), .extract (.t 54) 0, none, []⟩,
    ⟨(some 59), .extract (.t 54) 1, none, []⟩,
    ⟨(some 11), .mov (.t 58), none, []⟩,
    ⟨(some 12), .mov (.t 59), none, []⟩] [0, 1, 2, 7, 8, 9, 10, 11, 12])
  (.seq (.reg false [⟨(some 61), .mov (.t 7), none, []⟩,
    ⟨(some 62), .mov (.t 8), none, []⟩,
    ⟨(some 63), .call (.c (.func (.func 13) [] [])) [(.t 61), (.t 62)], none, []⟩,
    ⟨(some 60), .mov (.t 63), none, []⟩,
    ⟨(some 64), .extract (.t 60) 0, none, []⟩,
    ⟨(some 65), .extract (.t 60) 1, none, []⟩,
    ⟨(some 13), .mov (.t 64), none, []⟩,
    ⟨(some 14), .mov (.t 65), none, []⟩] [0, 1, 2, 7, 8, 9, 10, 11, 12, 13, 14])
  (.seq (.reg false [⟨(some 67), .mov (.t 0), none, []⟩,
    ⟨(some 68), .mov (.t 1), none, []⟩,
    ⟨(some 69), .call (.c (.func (.func 25) [] [])) [(.t 67), (.t 68)], none, []⟩,
    ⟨(some 66), .mov (.t 69), none, []⟩,
    ⟨(some 70), .extract (.t 66) 0, none, []⟩,
    ⟨(some 71), .extract (.t 66) 1, none, []⟩,
    ⟨(some 15), .mov (.t 70), none, []⟩,
    ⟨(some 16), .mov (.t 71), none, []⟩] [0, 1, 2, 7, 8, 9, 10, 11, 12, 13, 14, 15, 16])
  (.seq (.reg false [⟨(some 73), .mov (.t 7), none, []⟩,
    ⟨(some 74), .mov (.t 8), none, []⟩,
    ⟨(some 75), .call (.c (.func (.func 16) [] [])) [(.t 73), (.t 74)], none, []⟩,
    ⟨(some 72), .mov (.t 75), none, []⟩,
    ⟨(some 76), .extract (.t 72) 0, none, []⟩,
    ⟨(some 77), .extract (.t 72) 1, none, []⟩,
    ⟨(some 17), .mov (.t 76), none, []⟩,
    ⟨(some 18), .mov (.t 77), none, []⟩] [0, 1, 2, 7, 8, 9, 10, 11, 12, 13, 14, 15, 16, 17, 18])
  (.seq (.reg false [⟨(some 79), .mov (.t 0), none, []⟩,
    ⟨(some 80), .mov (.t 1), none, []⟩,
    ⟨(some 81), .call (.c (.func (.func 26) [] [])) [(.t 79), (.t 80)], none, []⟩,
    ⟨(some 78), .mov (.t 81), none, []⟩,
    ⟨(some 82), .extract (.t 78) 0, none, []⟩,
    ⟨(some 83), .extract (.t 78) 1, none, []⟩,
    ⟨(some 19), .mov (.t 82), none, []⟩,
    ⟨(some 20), .mov (.t 83), none, []⟩] [0, 1, 2, 7, 8, 9, 10, 11, 12, 13, 14, 15, 16, 17, 18, 19, 20])
  (.seq (.seq (.reg false [⟨(some 84), .mov (.t 9), none, []⟩,
    ⟨(some 85), .mov (.t 11), none, []⟩,
    ⟨(some 86), .bin .neq (.t 84) (.t 85), none, []⟩,
    ⟨(some 87), .mov (.t 86), none, []⟩,
    ⟨(some 88), .mov (.t 10), (some (87, false)), []⟩,
    ⟨(some 89), .mov (.t 12), (some (87, false)), []⟩,
    ⟨(some 90), .bin .neq (.t 88) (.t 89), (some (87, false)), []⟩,
    ⟨(some 91), .pick (.t 87) (.c (.bool true)) (.t 90), none, []⟩,
    ⟨(some 92), .mov (.t 91), none, []⟩,
    ⟨(some 93), .mov (.t 13), (some (92, false)), []⟩,
    ⟨(some 94), .mov (.t 15), (some (92, false)), []⟩,
    ⟨(some 95), .call (.c (.func (.func 15) [] [])) [(.t 93), (.t 94)], (some (92, false)), []⟩,
    ⟨(some 96), .un .not (.t 95), (some (92, false)), []⟩,
    ⟨(some 97), .pick (.t 92) (.c (.bool true)) (.t 96), none, []⟩,
    ⟨(some 98), .mov (.t 97), none, []⟩,
    ⟨(some 99), .mov (.t 14), (some (98, false)), []⟩,
    ⟨(some 100), .mov (.t 16), (some (98, false)), []⟩,
    ⟨(some 101), .bin .neq (.t 99) (.t 100), (some (98, false)), []⟩,
    ⟨(some 102), .pick (.t 98) (.c (.bool true)) (.t 101), none, []⟩,
    ⟨(some 103), .mov (.t 102), none, []⟩,
    ⟨(some 104), .mov (.t 17), (some (103, false)), []⟩,
    ⟨(some 105), .mov (.t 19), (some (103, false)), []⟩,
    ⟨(some 106), .call (.c (.func (.func 15) [] [])) [(.t 104), (.t 105)], (some (103, false)), []⟩,
    ⟨(some 107), .un .not (.t 106), (some (103, false)), []⟩,
    ⟨(some 108), .pick (.t 103) (.c (.bool true)) (.t 107), none, []⟩,
    ⟨(some 109), .mov (.t 108), none, []⟩,
    ⟨(some 110), .mov (.t 18), (some (109, false)), []⟩,
    ⟨(some 111), .mov (.t 20), (some (109, false)), []⟩,
    ⟨(some 112), .bin .neq (.t 110) (.t 111), (some (109, false)), []⟩,
    ⟨(some 113), .pick (.t 109) (.c (.bool true)) (.t 112), none, []⟩] [0, 1, 2, 7, 8, 113])
  (.cond (.t 113) (.seq (.reg false [⟨(some 6), .mov (.c (.bool false)), none, []⟩] [6])
  .ret) .skip))
  (.seq (.reg false [⟨(some 115), .mov (.t 7), none, []⟩,
    ⟨(some 116), .mov (.t 8), none, []⟩,
    ⟨(some 117), .call (.c (.func (.func 12) [] [])) [(.t 115), (.t 116)], none, []⟩,
    ⟨(some 114), .mov (.t 117), none, []⟩,
    ⟨(some 118), .extract (.t 114) 0, none, []⟩,
    ⟨(some 119), .extract (.t 114) 1, none, []⟩,
    ⟨(some 21), .mov (.t 118), none, []⟩,
    ⟨(some 22), .mov (.t 119), none, []⟩] [0, 1, 2, 7, 8, 21, 22])
  (.seq (.reg false [⟨(some 121), .mov (.t 0), none, []⟩,
    ⟨(some 122), .mov (.t 1), none, []⟩,
    ⟨(some 123), .call (.c (.func (.func 27) [] [])) [(.t 121), (.t 122)], none, []⟩,
    ⟨(some 120), .mov (.t 123), none, []⟩,
    ⟨(some 124), .extract (.t 120) 0, none, []⟩,
    ⟨(some 125), .extract (.t 120) 1, none, []⟩,
    ⟨(some 23), .mov (.t 124), none, []⟩,
    ⟨(some 24), .mov (.t 125), none, []⟩] [0, 1, 2, 7, 8, 21, 22, 23, 24])
  (.seq (.reg false [⟨(some 127), .mov (.t 7), none, []⟩,
    ⟨(some 128), .mov (.t 8), none, []⟩,
    ⟨(some 129), .call (.c (.func (.func 11) [] [])) [(.t 127), (.t 128)], none, []⟩,
    ⟨(some 126), .mov (.t 129), none, []⟩,
    ⟨(some 130), .extract (.t 126) 0, none, []⟩,
    ⟨(some 131), .extract (.t 126) 1, none, []⟩,
    ⟨(some 132), .extract (.t 126) 2, none, []⟩,
    ⟨(some 25), .mov (.t 130), none, []⟩,
    ⟨(some 26), .mov (.t 131), none, []⟩,
    ⟨(some 27), .mov (.t 132), none, []⟩] [0, 1, 2, 7, 8, 21, 22, 23, 24, 25, 26, 27])
  (.seq (.reg false [⟨(some 134), .mov (.t 0), none, []⟩,
    ⟨(some 135), .mov (.t 1), none, []⟩,
    ⟨(some 136), .call (.c (.func (.func 28) [] [])) [(.t 134), (.t 135)], none, []⟩,
    ⟨(some 133), .mov (.t 136), none, []⟩,
    ⟨(some 137), .extract (.t 133) 0, none, []⟩,
    ⟨(some 138), .extract (.t 133) 1, none, []⟩,
    ⟨(some 139), .extract (.t 133) 2, none, []⟩,
    ⟨(some 28), .mov (.t 137), none, []⟩,
    ⟨(some 29), .mov (.t 138), none, []⟩,
    ⟨(some 30), .mov (.t 139), none, []⟩] [0, 1, 2, 7, 8, 21, 22, 23, 24, 25, 26, 27, 28, 29, 30])
  (.seq (.reg false [⟨(some 141), .mov (.t 7), none, []⟩,
    ⟨(some 142), .mov (.t 2), none, []⟩,
    ⟨(some 143), .mov (.t 8), none, []⟩,
    ⟨(some 144), .call (.c (.func (.func 17) [] [])) [(.t 141), (.t 142), (.t 143)], none, []⟩,
    ⟨(some 140), .mov (.t 144), none, []⟩,
    ⟨(some 145), .extract (.t 140) 0, none, []⟩,
    ⟨(some 146), .extract (.t 140) 1, none, []⟩,
    ⟨(some 31), .mov (.t 145), none, []⟩,
    ⟨(some 32), .mov (.t 146), none, []⟩] [0, 1, 2, 7, 8, 21, 22, 23, 24, 25, 26, 27, 28, 29, 30, 31, 32])
  (.seq (.reg false [⟨(some 148), .mov (.t 0), none, []⟩,
    ⟨(some 149), .mov (.t 2), none, []⟩,
    ⟨(some 150), .mov (.t 1), none, []⟩,
    ⟨(some 151), .call (.c (.func (.func 29) [] [])) [(.t 148), (.t 149), (.t 150)], none, []⟩,
    ⟨(some 147), .mov (.t 151), none, []⟩,
    ⟨(some 152), .extract (.t 147) 0, none, []⟩,
    ⟨(some 153), .extract (.t 147) 1, none, []⟩,
    ⟨(some 33), .mov (.t 152), none, []⟩,
    ⟨(some 34), .mov (.t 153), none, []⟩] [0, 1, 7, 8, 21, 22, 23, 24, 25, 26, 27, 28, 29, 30, 31, 32, 33, 34])
  (.seq (.reg false [⟨(some 154), .mov (.t 21), none, []⟩,
    ⟨(some 155), .mov (.t 23), none, []⟩,
    ⟨(some 156), .call (.c (.func (.func 15) [] [])) [(.t 154), (.t 155)], none, []⟩,
    ⟨(some 157), .mov (.t 156), none, []⟩,
    ⟨(some 158), .mov (.t 22), (some (157, true)), []⟩,
    ⟨(some 159), .mov (.t 24), (some (157, true)), []⟩,
    ⟨(some 160), .bin .eql (.t 158) (.t 159), (some (157, true)), []⟩,
    ⟨(some 161), .pick (.t 157) (.t 160) (.c (.bool false)), none, []⟩,
    ⟨(some 162), .mov (.t 161), none, []⟩,
    ⟨(some 163), .mov (.t 25), (some (162, true)), []⟩,
    ⟨(some 164), .mov (.t 28), (some (162, true)), []⟩,
    ⟨(some 165), .call (.c (.func (.func 15) [] [])) [(.t 163), (.t 164)], (some (162, true)), []⟩,
    ⟨(some 166), .pick (.t 162) (.t 165) (.c (.bool false)), none, []⟩,
    ⟨(some 167), .mov (.t 166), none, []⟩,
    ⟨(some 168), .mov (.t 26), (some (167, true)), []⟩,
    ⟨(some 169), .mov (.t 29), (some (167, true)), []⟩,
    ⟨(some 170), .call (.c (.func (.func 15) [] [])) [(.t 168), (.t 169)], (some (167, true)), []⟩,
    ⟨(some 171), .pick (.t 167) (.t 170) (.c (.bool false)), none, []⟩,
    ⟨(some 172), .mov (.t 171), none, []⟩,
    ⟨(some 173), .mov (.t 27), (some (172, true)), []⟩,
    ⟨(some 174), .mov (.t 30), (some (172, true)), []⟩,
    ⟨(some 175), .bin .eql (.t 173) (.t 174), (some (172, true)), []⟩,
    ⟨(some 176), .pick (.t 172) (.t 175) (.c (.bool false)), none, []⟩,
    ⟨(some 177), .mov (.t 176), none, []⟩,
    ⟨(some 178), .mov (.t 31), (some (177, true)), []⟩,
    ⟨(some 179), .mov (.t 33), (some (177, true)), []⟩,
    ⟨(some 180), .call (.c (.func (.func 15) [] [])) [(.t 178), (.t 179)], (some (177, true)), []⟩,
    ⟨(some 181), .pick (.t 177) (.t 180) (.c (.bool false)), none, []⟩,
    ⟨(some 182), .mov (.t 181), none, []⟩,
    ⟨(some 183), .mov (.t 32), (some (182, true)), []⟩,
    ⟨(some 184), .mov (.t 34), (some (182, true)), []⟩,
    ⟨(some 185), .bin .eql (.t 183) (.t 184), (some (182, true)), []⟩,
    ⟨(some 186), .pick (.t 182) (.t 185) (.c (.bool false)), none, []⟩,
    ⟨(some 187), .mov (.t 186), none, []⟩,
    ⟨(some 188), .mov (.t 7), (some (187, true)), []⟩,
    ⟨(some 189), .mov (.t 0), (some (187, true)), []⟩,
    ⟨(some 190), .call (.c (.func (.func 15) [] [])) [(.t 188), (.t 189)], (some (187, true)), []⟩,
    ⟨(some 191), .pick (.t 187) (.t 190) (.c (.bool false)), none, []⟩,
    ⟨(some 192), .mov (.t 191), none, []⟩,
    ⟨(some 193), .mov (.t 8), (some (192, true)), []⟩,
    ⟨(some 194), .mov (.t 1), (some (192, true)), []⟩,
    ⟨(some 195), .call (.c (.func (.func 15) [] [])) [(.t 193), (.t 194)], (some (192, true)), []⟩,
    ⟨(some 196), .pick (.t 192) (.t 195) (.c (.bool false)), none, []⟩,
    ⟨(some 197), .mov (.t 196), none, []⟩,
    ⟨(some 198), .call (.c (.func (.func 10) [] [])) [], (some (197, true)), []⟩,
    ⟨(some 199), .pick (.t 197) (.t 198) (.c (.bool false)), none, []⟩,
    ⟨(some 6), .mov (.t 199), none, []⟩] [6])
  .ret)))))))))))))))))
def f8 : VFn := ⟨3, 200, f8_c, [.t 6], true, []⟩
/- caliper/nat.Check -/
def f9_c : VCode :=
  (.seq (.reg false [⟨(some 2), .mov (.c (.int .i64 0)), none, []⟩] [0])
  (.seq (.seq (.reg false [⟨(some 3), .mov (.t 0), none, []⟩,
    ⟨(some 4), .call (.c (.func (.func 30) [] [])) [(.t 3)], none, []⟩,
    ⟨(some 5), .un .not (.t 4), none, []⟩] [5])
  (.cond (.t 5) (.seq (.reg false [⟨(some 2), .mov (.c (.int .i64 2)), none, []⟩] [2])
  .ret) .skip))
  (.seq (.reg false [⟨(some 2), .mov (.c (.int .i64 0)), none, []⟩] [2])
  .ret)))
def f9 : VFn := ⟨1, 6, f9_c, [.t 2], true, []⟩
/- caliper/caliperlaw02.heads -/
def f10_c : VCode :=
  (.seq (.reg false [⟨(some 0), .mov (.c (.bool false)), none, []⟩] [])
  (.seq (.reg false [⟨(some 14), .call (.c (.func (.func 18) [] [])) [(.c (.str ⟨#[49, 48, 48, 48, 48, 48, 48, 48, 48, 48]⟩))], none, []⟩,
    ⟨(some 13), .mov (.t 14), none, []⟩,
    ⟨(some 15), .extract (.t 13) 0, none, []⟩,
    ⟨(some 16), .extract (.t 13) 1, none, []⟩,
    ⟨(some 1), .mov (.t 15), none, []⟩,
    ⟨(some 2), .mov (.t 16), none, []⟩] [1, 2])
  (.seq (.reg false [⟨(some 18), .buildRow false 1 1 [(.int .u32 0)] [(0, (.c (.int .u32 999999999)))], none, []⟩,
    ⟨(some 19), .buildRow false 1 1 [(.int .u32 0)] [(0, (.c (.int .u32 999999999)))], none, []⟩,
    ⟨(some 20), .call (.c (.func (.func 12) [] [])) [(.t 18), (.t 19)], none, []⟩,
    ⟨(some 17), .mov (.t 20), none, []⟩,
    ⟨(some 21), .extract (.t 17) 0, none, []⟩,
    ⟨(some 22), .extract (.t 17) 1, none, []⟩,
    ⟨(some 3), .mov (.t 21), none, []⟩,
    ⟨(some 4), .mov (.t 22), none, []⟩] [1, 2, 3, 4])
  (.seq (.reg false [⟨(some 24), .mov (.t 1), none, []⟩,
    ⟨(some 25), .buildRow false 1 1 [(.int .u32 0)] [(0, (.c (.int .u32 3)))], none, []⟩,
    ⟨(some 26), .call (.c (.func (.func 11) [] [])) [(.t 24), (.t 25)], none, []⟩,
    ⟨(some 23), .mov (.t 26), none, []⟩,
    ⟨(some 27), .extract (.t 23) 0, none, []⟩,
    ⟨(some 28), .extract (.t 23) 1, none, []⟩,
    ⟨(some 29), .extract (.t 23) 2, none, []⟩,
    ⟨(some 5), .mov (.t 27), none, []⟩,
    ⟨(some 6), .mov (.t 28), none, []⟩,
    ⟨(some 7), .mov (.t 29), none, []⟩] [1, 2, 3, 4, 5, 6, 7])
  (.seq (.reg false [⟨(some 31), .mov (.t 1), none, []⟩,
    ⟨(some 32), .call (.c (.func (.func 11) [] [])) [(.t 31), (.c (.sl 0 [] true))], none, []⟩,
    ⟨(some 30), .mov (.t 32), none, []⟩,
    ⟨(some 33), .extract (.t 30) 0, none, []⟩,
    ⟨(some 34), .extract (.t 30) 1, none, []⟩,
    ⟨(some 35), .extract (.t 30) 2, none, []⟩,
    ⟨(some 8), .mov (.t 33), none, []⟩,
    ⟨(some 9), .mov (.t 34), none, []⟩,
    ⟨(some 10), .mov (.t 35), none, []⟩] [1, 2, 3, 4, 5, 6, 7, 10])
  (.seq (.reg false [⟨(some 37), .buildRow false 1 1 [(.int .u32 0)] [(0, (.c (.int .u32 0)))], none, []⟩,
    ⟨(some 38), .call (.c (.func (.func 13) [] [])) [(.t 37), (.c (.sl 0 [] true))], none, []⟩,
    ⟨(some 36), .mov (.t 38), none, []⟩,
    ⟨(some 39), .extract (.t 36) 0, none, []⟩,
    ⟨(some 40), .extract (.t 36) 1, none, []⟩,
    ⟨(some 11), .mov (.t 39), none, []⟩,
    ⟨(some 12), .mov (.t 40), none, []⟩] [1, 2, 3, 4, 5, 6, 7, 10, 12])
  (.seq (.reg false [⟨(some 41), .mov (.t 2), none, []⟩,
    ⟨(some 42), .bin .eql (.t 41) (.c (.int .i64 0)), none, []⟩,
    ⟨(some 43), .mov (.t 42), none, []⟩,
    ⟨(some 44), .mov (.t 4), (some (43, true)), []⟩,
    ⟨(some 45), .bin .eql (.t 44) (.c (.int .i64 0)), (some (43, true)), []⟩,
    ⟨(some 46), .pick (.t 43) (.t 45) (.c (.bool false)), none, []⟩,
    ⟨(some 47), .mov (.t 46), none, []⟩,
    ⟨(some 48), .mov (.t 7), (some (47, true)), []⟩,
    ⟨(some 49), .bin .eql (.t 48) (.c (.int .i64 0)), (some (47, true)), []⟩,
    ⟨(some 50), .pick (.t 47) (.t 49) (.c (.bool false)), none, []⟩,
    ⟨(some 51), .mov (.t 50), none, []⟩,
    ⟨(some 52), .mov (.t 1), (some (51, true)), []⟩,
    ⟨(some 53), .buildRow false 1 2 [(.int .u32 0)] [(0, (.c (.int .u32 0))), (1, (.c (.int .u32 1)))], (some (51, true)), []⟩,
    ⟨(some 54), .call (.c (.func (.func 15) [] [])) [(.t 52), (.t 53)], (some (51, true)), []⟩,
    ⟨(some 55), .pick (.t 51) (.t 54) (.c (.bool false)), none, []⟩,
    ⟨(some 56), .mov (.t 55), none, []⟩,
    ⟨(some 57), .mov (.t 3), (some (56, true)), []⟩,
    ⟨(some 58), .buildRow false 1 2 [(.int .u32 0)] [(0, (.c (.int .u32 1))), (1, (.c (.int .u32 999999998)))], (some (56, true)), []⟩,
    ⟨(some 59), .call (.c (.func (.func 15) [] [])) [(.t 57), (.t 58)], (some (56, true)), []⟩,
    ⟨(some 60), .pick (.t 56) (.t 59) (.c (.bool false)), none, []⟩,
    ⟨(some 61), .mov (.t 60), none, []⟩,
    ⟨(some 62), .mov (.t 5), (some (61, true)), []⟩,
    ⟨(some 63), .buildRow false 1 1 [(.int .u32 0)] [(0, (.c (.int .u32 333333333)))], (some (61, true)), []⟩,
    ⟨(some 64), .call (.c (.func (.func 15) [] [])) [(.t 62), (.t 63)], (some (61, true)), []⟩,
    ⟨(some 65), .pick (.t 61) (.t 64) (.c (.bool false)), none, []⟩,
    ⟨(some 66), .mov (.t 65), none, []⟩,
    ⟨(some 67), .mov (.t 6), (some (66, true)), []⟩,
    ⟨(some 68), .buildRow false 1 1 [(.int .u32 0)] [(0, (.c (.int .u32 1)))], (some (66, true)), []⟩,
    ⟨(some 69), .call (.c (.func (.func 15) [] [])) [(.t 67), (.t 68)], (some (66, true)), []⟩,
    ⟨(some 70), .pick (.t 66) (.t 69) (.c (.bool false)), none, []⟩,
    ⟨(some 71), .mov (.t 70), none, []⟩,
    ⟨(some 72), .mov (.t 10), (some (71, true)), []⟩,
    ⟨(some 73), .bin .eql (.t 72) (.c (.int .i64 20)), (some (71, true)), []⟩,
    ⟨(some 74), .pick (.t 71) (.t 73) (.c (.bool false)), none, []⟩,
    ⟨(some 75), .mov (.t 74), none, []⟩,
    ⟨(some 76), .mov (.t 12), (some (75, true)), []⟩,
    ⟨(some 77), .bin .eql (.t 76) (.c (.int .i64 2)), (some (75, true)), []⟩,
    ⟨(some 78), .pick (.t 75) (.t 77) (.c (.bool false)), none, []⟩,
    ⟨(some 0), .mov (.t 78), none, []⟩] [0])
  .ret)))))))
def f10 : VFn := ⟨0, 79, f10_c, [.t 0], true, []⟩
/- caliper/nat.Div -/
def f11_c : VCode :=
  (.seq (.reg false [⟨(some 4), .nilrow 1, none, []⟩,
    ⟨(some 5), .nilrow 1, none, []⟩,
    ⟨(some 6), .mov (.c (.int .i64 0)), none, []⟩] [0, 1])
  (.seq (.seq (.reg false [⟨(some 10), .mov (.t 0), none, []⟩,
    ⟨(some 11), .mov (.t 1), none, []⟩,
    ⟨(some 12), .call (.c (.func (.func 31) [] [])) [(.t 10), (.t 11)], none, []⟩,
    ⟨(some 7), .mov (.t 12), none, []⟩] [0, 1, 7])
  (.seq (.reg false [⟨(some 13), .mov (.t 7), none, []⟩,
    ⟨(some 14), .bin .neq (.t 13) (.c (.int .i64 0)), none, []⟩] [0, 1, 7, 14])
  (.cond (.t 14) (.seq (.reg false [⟨(some 15), .mov (.t 7), none, []⟩,
    ⟨(some 4), .nilrow 1, none, []⟩,
    ⟨(some 5), .nilrow 1, none, []⟩,
    ⟨(some 6), .mov (.t 15), none, []⟩] [4, 5, 6])
  .ret) .skip)))
  (.seq (.seq (.reg false [⟨(some 16), .mov (.t 1), none, []⟩,
    ⟨(some 17), .len (.t 16), none, []⟩,
    ⟨(some 18), .bin .eql (.t 17) (.c (.int .i64 0)), none, []⟩] [0, 1, 18])
  (.cond (.t 18) (.seq (.reg false [⟨(some 4), .nilrow 1, none, []⟩,
    ⟨(some 5), .nilrow 1, none, []⟩,
    ⟨(some 6), .mov (.c (.int .i64 20)), none, []⟩] [4, 5, 6])
  .ret) .skip))
  (.seq (.reg false [⟨(some 20), .mov (.t 0), none, []⟩,
    ⟨(some 21), .mov (.t 1), none, []⟩,
    ⟨(some 22), .call (.c (.func (.func 32) [] [])) [(.t 20), (.t 21)], none, []⟩,
    ⟨(some 19), .mov (.t 22), none, []⟩,
    ⟨(some 23), .extract (.t 19) 0, none, []⟩,
    ⟨(some 24), .extract (.t 19) 1, none, []⟩,
    ⟨(some 8), .mov (.t 23), none, []⟩,
    ⟨(some 9), .mov (.t 24), none, []⟩] [8, 9])
  (.seq (.reg false [⟨(some 25), .mov (.t 8), none, []⟩,
    ⟨(some 26), .mov (.t 9), none, []⟩,
    ⟨(some 4), .mov (.t 25), none, []⟩,
    ⟨(some 5), .mov (.t 26), none, []⟩,
    ⟨(some 6), .mov (.c (.int .i64 0)), none, []⟩] [4, 5, 6])
  .ret)))))
def f11 : VFn := ⟨2, 27, f11_c, [.t 4, .t 5, .t 6], true, []⟩
/- caliper/nat.Mul -/
def f12_c : VCode :=
  (.seq (.reg false [⟨(some 4), .nilrow 1, none, []⟩,
    ⟨(some 5), .mov (.c (.int .i64 0)), none, []⟩] [0, 1])
  (.seq (.seq (.reg false [⟨(some 7), .mov (.t 0), none, []⟩,
    ⟨(some 8), .mov (.t 1), none, []⟩,
    ⟨(some 9), .call (.c (.func (.func 31) [] [])) [(.t 7), (.t 8)], none, []⟩,
    ⟨(some 6), .mov (.t 9), none, []⟩] [0, 1, 6])
  (.seq (.reg false [⟨(some 10), .mov (.t 6), none, []⟩,
    ⟨(some 11), .bin .neq (.t 10) (.c (.int .i64 0)), none, []⟩] [0, 1, 6, 11])
  (.cond (.t 11) (.seq (.reg false [⟨(some 12), .mov (.t 6), none, []⟩,
    ⟨(some 4), .nilrow 1, none, []⟩,
    ⟨(some 5), .mov (.t 12), none, []⟩] [4, 5])
  .ret) .skip)))
  (.seq (.reg false [⟨(some 13), .mov (.t 0), none, []⟩,
    ⟨(some 14), .mov (.t 1), none, []⟩,
    ⟨(some 15), .call (.c (.func (.func 33) [] [])) [(.t 13), (.t 14)], none, []⟩,
    ⟨(some 4), .mov (.t 15), none, []⟩,
    ⟨(some 5), .mov (.c (.int .i64 0)), none, []⟩] [4, 5])
  .ret)))
def f12 : VFn := ⟨2, 16, f12_c, [.t 4, .t 5], true, []⟩
/- caliper/nat.Add -/
def f13_c : VCode :=
  (.seq (.reg false [⟨(some 4), .nilrow 1, none, []⟩,
    ⟨(some 5), .mov (.c (.int .i64 0)), none, []⟩] [0, 1])
  (.seq (.seq (.reg false [⟨(some 7), .mov (.t 0), none, []⟩,
    ⟨(some 8), .mov (.t 1), none, []⟩,
    ⟨(some 9), .call (.c (.func (.func 31) [] [])) [(.t 7), (.t 8)], none, []⟩,
    ⟨(some 6), .mov (.t 9), none, []⟩] [0, 1, 6])
  (.seq (.reg false [⟨(some 10), .mov (.t 6), none, []⟩,
    ⟨(some 11), .bin .neq (.t 10) (.c (.int .i64 0)), none, []⟩] [0, 1, 6, 11])
  (.cond (.t 11) (.seq (.reg false [⟨(some 12), .mov (.t 6), none, []⟩,
    ⟨(some 4), .nilrow 1, none, []⟩,
    ⟨(some 5), .mov (.t 12), none, []⟩] [4, 5])
  .ret) .skip)))
  (.seq (.reg false [⟨(some 13), .mov (.t 0), none, []⟩,
    ⟨(some 14), .mov (.t 1), none, []⟩,
    ⟨(some 15), .call (.c (.func (.func 34) [] [])) [(.t 13), (.t 14), (.c (.func (.func 35) [] []))], none, []⟩,
    ⟨(some 4), .mov (.t 15), none, []⟩,
    ⟨(some 5), .mov (.c (.int .i64 0)), none, []⟩] [4, 5])
  .ret)))
def f13 : VFn := ⟨2, 16, f13_c, [.t 4, .t 5], true, []⟩
/- caliper/nat.Compare -/
def f14_c : VCode :=
  (.seq (.reg false [⟨(some 4), .mov (.c (.int .i64 0)), none, []⟩,
    ⟨(some 5), .mov (.c (.int .i64 0)), none, []⟩] [0, 1])
  (.seq (.seq (.reg false [⟨(some 7), .mov (.t 0), none, []⟩,
    ⟨(some 8), .mov (.t 1), none, []⟩,
    ⟨(some 9), .call (.c (.func (.func 31) [] [])) [(.t 7), (.t 8)], none, []⟩,
    ⟨(some 6), .mov (.t 9), none, []⟩] [0, 1, 6])
  (.seq (.reg false [⟨(some 10), .mov (.t 6), none, []⟩,
    ⟨(some 11), .bin .neq (.t 10) (.c (.int .i64 0)), none, []⟩] [0, 1, 6, 11])
  (.cond (.t 11) (.seq (.reg false [⟨(some 12), .mov (.t 6), none, []⟩,
    ⟨(some 4), .mov (.c (.int .i64 0)), none, []⟩,
    ⟨(some 5), .mov (.t 12), none, []⟩] [4, 5])
  .ret) .skip)))
  (.seq (.reg false [⟨(some 13), .mov (.t 0), none, []⟩,
    ⟨(some 14), .mov (.t 1), none, []⟩,
    ⟨(some 15), .call (.c (.func (.func 36) [] [])) [(.t 13), (.t 14)], none, []⟩,
    ⟨(some 4), .mov (.t 15), none, []⟩,
    ⟨(some 5), .mov (.c (.int .i64 0)), none, []⟩] [4, 5])
  .ret)))
def f14 : VFn := ⟨2, 16, f14_c, [.t 4, .t 5], true, []⟩
/- caliper/caliperref02.Same -/
def f15_l0 : VCode :=
  (.seq (.seq (.reg false [⟨(some 11), .mov (.t 5), none, []⟩,
    ⟨(some 12), .mov (.t 0), none, []⟩,
    ⟨(some 13), .len (.t 12), none, []⟩,
    ⟨(some 14), .bin .lss (.t 11) (.t 13), none, []⟩] [0, 1, 5, 14])
  (.cond (.t 14) .skip (.exit 0)))
  (.seq (.block 1 (.seq (.reg true [⟨(some 17), .mov (.t 0), none, []⟩,
    ⟨(some 18), .mov (.t 5), none, []⟩,
    ⟨(some 19), .iaddr 1 (.t 17) (.t 18), none, []⟩,
    ⟨(some 20), .load none (.t 19), none, []⟩,
    ⟨(some 21), .mov (.t 1), none, []⟩,
    ⟨(some 22), .mov (.t 5), none, []⟩,
    ⟨(some 23), .iaddr 1 (.t 21) (.t 22), none, []⟩,
    ⟨(some 24), .load none (.t 23), none, []⟩,
    ⟨(some 25), .bin .neq (.t 20) (.t 24), none, []⟩] [0, 1, 5, 25])
  (.cond (.t 25) (.seq (.reg false [⟨(some 4), .mov (.c (.bool false)), none, []⟩] [4])
  .ret) .skip)))
  (.reg false [⟨(some 15), .mov (.t 5), none, []⟩,
    ⟨(some 16), .bin .add (.t 15) (.c (.int .i64 1)), none, []⟩,
    ⟨(some 5), .mov (.t 16), none, []⟩] [0, 1, 5])))
def f15_c : VCode :=
  (.seq (.reg false [⟨(some 4), .mov (.c (.bool false)), none, []⟩] [0, 1])
  (.seq (.seq (.reg false [⟨(some 6), .mov (.t 0), none, []⟩,
    ⟨(some 7), .len (.t 6), none, []⟩,
    ⟨(some 8), .mov (.t 1), none, []⟩,
    ⟨(some 9), .len (.t 8), none, []⟩,
    ⟨(some 10), .bin .neq (.t 7) (.t 9), none, []⟩] [0, 1, 10])
  (.cond (.t 10) (.seq (.reg false [⟨(some 4), .mov (.c (.bool false)), none, []⟩] [4])
  .ret) .skip))
  (.seq (.seq (.reg false [⟨(some 5), .mov (.c (.int .i64 0)), none, []⟩] [0, 1, 5])
  (.block 0 (.loop [0, 1, 5] f15_l0)))
  (.seq (.reg false [⟨(some 4), .mov (.c (.bool true)), none, []⟩] [4])
  .ret))))
def f15 : VFn := ⟨2, 26, f15_c, [.t 4], true, []⟩
/- caliper/nat.Sub -/
def f16_c : VCode :=
  (.seq (.reg false [⟨(some 4), .nilrow 1, none, []⟩,
    ⟨(some 5), .mov (.c (.int .i64 0)), none, []⟩] [0, 1])
  (.seq (.seq (.reg false [⟨(some 7), .mov (.t 0), none, []⟩,
    ⟨(some 8), .mov (.t 1), none, []⟩,
    ⟨(some 9), .call (.c (.func (.func 31) [] [])) [(.t 7), (.t 8)], none, []⟩,
    ⟨(some 6), .mov (.t 9), none, []⟩] [0, 1, 6])
  (.seq (.reg false [⟨(some 10), .mov (.t 6), none, []⟩,
    ⟨(some 11), .bin .neq (.t 10) (.c (.int .i64 0)), none, []⟩,
    ⟨(some 12), .mov (.t 11), none, []⟩,
    ⟨(some 13), .mov (.t 0), (some (12, false)), []⟩,
    ⟨(some 14), .mov (.t 1), (some (12, false)), []⟩,
    ⟨(some 15), .call (.c (.func (.func 36) [] [])) [(.t 13), (.t 14)], (some (12, false)), []⟩,
    ⟨(some 16), .bin .lss (.t 15) (.c (.int .i64 0)), (some (12, false)), []⟩,
    ⟨(some 17), .pick (.t 12) (.c (.bool true)) (.t 16), none, []⟩] [0, 1, 17])
  (.cond (.t 17) (.seq (.reg false [⟨(some 4), .nilrow 1, none, []⟩,
    ⟨(some 5), .mov (.c (.int .i64 2)), none, []⟩] [4, 5])
  .ret) .skip)))
  (.seq (.reg false [⟨(some 18), .mov (.t 0), none, []⟩,
    ⟨(some 19), .mov (.t 1), none, []⟩,
    ⟨(some 20), .call (.c (.func (.func 37) [] [])) [(.t 18), (.t 19)], none, []⟩,
    ⟨(some 4), .mov (.t 20), none, []⟩,
    ⟨(some 5), .mov (.c (.int .i64 0)), none, []⟩] [4, 5])
  .ret)))
def f16 : VFn := ⟨2, 21, f16_c, [.t 4, .t 5], true, []⟩
/- caliper/nat.Power -/
def f17_l0 : VCode :=
  (.seq (.seq (.reg false [⟨(some 32), .mov (.t 1), none, []⟩,
    ⟨(some 33), .bin .gtr (.t 32) (.c (.int .i64 0)), none, []⟩] [1, 9, 10, 11, 33])
  (.cond (.t 33) .skip (.exit 1)))
  (.seq (.block 2 (.seq (.seq (.reg false [⟨(some 36), .mov (.t 1), none, []⟩,
    ⟨(some 37), .bin .and (.t 36) (.c (.int .i64 1)), none, []⟩,
    ⟨(some 38), .bin .gtr (.t 37) (.c (.int .i64 0)), none, []⟩] [1, 9, 10, 11, 38])
  (.cond (.t 38) (.reg false [⟨(some 39), .mov (.t 9), none, []⟩,
    ⟨(some 40), .mov (.t 10), none, []⟩,
    ⟨(some 41), .mov (.t 11), none, []⟩,
    ⟨(some 42), .call (.c (.func (.func 33) [] [])) [(.t 40), (.t 41)], none, []⟩,
    ⟨(some 43), .call (.t 39) [(.t 42)], none, []⟩,
    ⟨(some 10), .mov (.t 43), none, []⟩] [1, 9, 10, 11]) .skip))
  (.seq (.reg false [⟨(some 44), .mov (.t 1), none, []⟩,
    ⟨(some 45), .bin .gtr (.t 44) (.c (.int .i64 1)), none, []⟩] [1, 9, 10, 11, 45])
  (.cond (.t 45) (.reg false [⟨(some 46), .mov (.t 9), none, []⟩,
    ⟨(some 47), .mov (.t 11), none, []⟩,
    ⟨(some 48), .mov (.t 11), none, []⟩,
    ⟨(some 49), .call (.c (.func (.func 33) [] [])) [(.t 47), (.t 48)], none, []⟩,
    ⟨(some 50), .call (.t 46) [(.t 49)], none, []⟩,
    ⟨(some 11), .mov (.t 50), none, []⟩] [1, 9, 10, 11]) .skip))))
  (.reg false [⟨(some 34), .mov (.t 1), none, []⟩,
    ⟨(some 35), .bin .shr (.t 34) (.c (.int .u64 1)), none, []⟩,
    ⟨(some 1), .mov (.t 35), none, []⟩] [1, 9, 10, 11])))
def f17_c : VCode :=
  (.seq (.reg false [⟨(some 5), .box false 1 (.t 2), none, []⟩,
    ⟨(some 6), .nilrow 1, none, []⟩,
    ⟨(some 7), .mov (.c (.int .i64 0)), none, []⟩] [0, 1, 5])
  (.seq (.seq (.reg false [⟨(some 12), .mov (.t 0), none, []⟩,
    ⟨(some 13), .load none (.t 5), none, []⟩,
    ⟨(some 14), .call (.c (.func (.func 31) [] [])) [(.t 12), (.t 13)], none, []⟩,
    ⟨(some 8), .mov (.t 14), none, []⟩] [0, 1, 5, 8])
  (.seq (.reg false [⟨(some 15), .mov (.t 8), none, []⟩,
    ⟨(some 16), .bin .neq (.t 15) (.c (.int .i64 0)), none, []⟩] [0, 1, 5, 8, 16])
  (.cond (.t 16) (.seq (.reg false [⟨(some 17), .mov (.t 8), none, []⟩,
    ⟨(some 6), .nilrow 1, none, []⟩,
    ⟨(some 7), .mov (.t 17), none, []⟩] [6, 7])
  .ret) .skip)))
  (.seq (.block 0 (.seq (.reg false [⟨(some 19), .load none (.t 5), none, []⟩,
    ⟨(some 20), .len (.t 19), none, []⟩,
    ⟨(some 21), .bin .eql (.t 20) (.c (.int .i64 0)), none, []⟩,
    ⟨(some 18), .mov (.t 21), none, []⟩] [0, 1, 5, 18])
  (.cond (.t 18) (.seq (.reg false [⟨(some 6), .nilrow 1, none, []⟩,
    ⟨(some 7), .mov (.c (.int .i64 20)), none, []⟩] [6, 7])
  .ret) (.seq (.reg false [⟨(some 23), .mov (.t 1), none, []⟩,
    ⟨(some 24), .bin .lss (.t 23) (.c (.int .i64 0)), none, []⟩,
    ⟨(some 22), .mov (.t 24), none, []⟩] [0, 1, 5, 22])
  (.cond (.t 22) (.seq (.reg false [⟨(some 6), .nilrow 1, none, []⟩,
    ⟨(some 7), .mov (.c (.int .i64 2)), none, []⟩] [6, 7])
  .ret) .skip)))))
  (.seq (.reg false [⟨(some 25), .mkfunc (.func 38) [] [(.t 5)], none, []⟩,
    ⟨(some 9), .mov (.t 25), none, []⟩] [0, 1, 9])
  (.seq (.reg false [⟨(some 26), .mov (.t 9), none, []⟩,
    ⟨(some 27), .buildRow false 1 1 [(.int .u32 0)] [(0, (.c (.int .u32 1)))], none, []⟩,
    ⟨(some 28), .call (.t 26) [(.t 27)], none, []⟩,
    ⟨(some 29), .mov (.t 9), none, []⟩,
    ⟨(some 30), .mov (.t 0), none, []⟩,
    ⟨(some 31), .call (.t 29) [(.t 30)], none, []⟩,
    ⟨(some 10), .mov (.t 28), none, []⟩,
    ⟨(some 11), .mov (.t 31), none, []⟩] [1, 9, 10, 11])
  (.seq (.block 1 (.loop [1, 9, 10, 11] f17_l0))
  (.seq (.reg false [⟨(some 51), .mov (.t 10), none, []⟩,
    ⟨(some 6), .mov (.t 51), none, []⟩,
    ⟨(some 7), .mov (.c (.int .i64 0)), none, []⟩] [6, 7])
  .ret)))))))
def f17 : VFn := ⟨3, 52, f17_c, [.t 6, .t 7], true, []⟩
/- caliper/nat.Of -/
def f18_l0 : VCode :=
  (.seq (.reg false [⟨(some 33), .bin .lss (.t 32) (.t 31), none, []⟩] [0, 4, 5, 6, 30, 31, 32, 33])
  (.seq (.cond (.t 33) .skip (.exit 2))
  (.seq (.block 3 (.seq (.reg false [⟨(some 34), .iaddr 1 (.t 30) (.t 32), none, []⟩,
    ⟨(some 35), .load none (.t 34), none, []⟩,
    ⟨(some 8), .mov (.t 35), none, []⟩] [0, 4, 5, 6, 8, 30, 31, 32])
  (.reg false [⟨(some 36), .mov (.t 6), none, []⟩,
    ⟨(some 37), .bin .mul (.t 36) (.c (.int .u32 10)), none, []⟩,
    ⟨(some 38), .mov (.t 8), none, []⟩,
    ⟨(some 39), .bin .sub (.t 38) (.c (.int .u8 48)), none, []⟩,
    ⟨(some 40), .conv (.toInt .u32) (.t 39), none, []⟩,
    ⟨(some 41), .bin .add (.t 37) (.t 40), none, []⟩,
    ⟨(some 6), .mov (.t 41), none, []⟩] [0, 4, 5, 6, 30, 31, 32])))
  (.reg false [⟨(some 42), .bin .add (.t 32) (.c (.int .i64 1)), none, []⟩,
    ⟨(some 32), .mov (.t 42), none, []⟩] [0, 4, 5, 6, 30, 31, 32]))))
def f18_l1 : VCode :=
  (.seq (.seq (.reg false [⟨(some 21), .mov (.t 0), none, []⟩,
    ⟨(some 22), .bin .neq (.t 21) (.c (.str ⟨#[]⟩)), none, []⟩] [0, 4, 22])
  (.cond (.t 22) .skip (.exit 0)))
  (.block 1 (.seq (.reg false [⟨(some 23), .mov (.t 0), none, []⟩,
    ⟨(some 24), .lens (.t 23), none, []⟩,
    ⟨(some 25), .bin .sub (.t 24) (.c (.int .i64 9)), none, []⟩,
    ⟨(some 26), .max [(.c (.int .i64 0)), (.t 25)], none, []⟩,
    ⟨(some 5), .mov (.t 26), none, []⟩] [0, 4, 5])
  (.seq (.reg false [⟨(some 6), .mov (.c (.int .u32 0)), none, []⟩] [0, 4, 5, 6])
  (.seq (.seq (.reg false [⟨(some 27), .mov (.t 0), none, []⟩,
    ⟨(some 28), .mov (.t 5), none, []⟩,
    ⟨(some 29), .slstr (.t 27) (some (.t 28)) none, none, []⟩,
    ⟨(some 30), .conv .strToBytes (.t 29), none, []⟩,
    ⟨(some 31), .len (.t 30), none, []⟩,
    ⟨(some 32), .mov (.c (.int .i64 0)), none, []⟩] [0, 4, 5, 6, 30, 31, 32])
  (.block 2 (.loop [0, 4, 5, 6, 30, 31, 32] f18_l0)))
  (.seq (.reg false [⟨(some 43), .mov (.t 4), none, []⟩,
    ⟨(some 44), .mov (.t 6), none, []⟩,
    ⟨(some 45), .buildRow false 1 1 [(.int .u32 0)] [(0, (.t 44))], none, []⟩,
    ⟨(some 46), .append 1 4 (.t 43) (.t 45), none, []⟩,
    ⟨(some 4), .mov (.t 46), none, []⟩] [0, 4, 5])
  (.reg false [⟨(some 47), .mov (.t 0), none, []⟩,
    ⟨(some 48), .mov (.t 5), none, []⟩,
    ⟨(some 49), .slstr (.t 47) none (some (.t 48)), none, []⟩,
    ⟨(some 0), .mov (.t 49), none, []⟩] [0, 4])))))))
def f18_c : VCode :=
  (.seq (.reg false [⟨(some 2), .nilrow 1, none, []⟩,
    ⟨(some 3), .mov (.c (.int .i64 0)), none, []⟩] [0])
  (.seq (.seq (.reg false [⟨(some 9), .mov (.t 0), none, []⟩,
    ⟨(some 10), .bin .eql (.t 9) (.c (.str ⟨#[]⟩)), none, []⟩,
    ⟨(some 11), .mov (.t 10), none, []⟩,
    ⟨(some 12), .mov (.t 0), (some (11, false)), []⟩,
    ⟨(some 13), .lens (.t 12), (some (11, false)), []⟩,
    ⟨(some 14), .bin .gtr (.t 13) (.c (.int .i64 1048576)), (some (11, false)), []⟩,
    ⟨(some 15), .pick (.t 11) (.c (.bool true)) (.t 14), none, []⟩,
    ⟨(some 16), .mov (.t 15), none, []⟩,
    ⟨(some 17), .mov (.t 0), (some (16, false)), []⟩,
    ⟨(some 18), .call (.c (.func (.func 39) [] [])) [(.t 17), (.c (.str ⟨#[48, 49, 50, 51, 52, 53, 54, 55, 56, 57]⟩))], (some (16, false)), []⟩,
    ⟨(some 19), .bin .neq (.t 18) (.c (.str ⟨#[]⟩)), (some (16, false)), []⟩,
    ⟨(some 20), .pick (.t 16) (.c (.bool true)) (.t 19), none, []⟩] [0, 20])
  (.cond (.t 20) (.seq (.reg false [⟨(some 2), .nilrow 1, none, []⟩,
    ⟨(some 3), .mov (.c (.int .i64 2)), none, []⟩] [2, 3])
  .ret) .skip))
  (.seq (.reg false [⟨(some 4), .nilrow 1, none, []⟩] [0, 4])
  (.seq (.block 0 (.loop [0, 4] f18_l1))
  (.seq (.reg false [⟨(some 50), .mov (.t 4), none, []⟩,
    ⟨(some 51), .call (.c (.func (.func 40) [] [])) [(.t 50)], none, []⟩,
    ⟨(some 2), .mov (.t 51), none, []⟩,
    ⟨(some 3), .mov (.c (.int .i64 0)), none, []⟩] [2, 3])
  .ret)))))
def f18 : VFn := ⟨1, 52, f18_c, [.t 2, .t 3], true, []⟩
/- caliper/caliperref02.Of -/
def f19_l0 : VCode :=
  (.seq (.seq (.reg false [⟨(some 17), .mov (.t 4), none, []⟩,
    ⟨(some 18), .mov (.t 0), none, []⟩,
    ⟨(some 19), .lens (.t 18), none, []⟩,
    ⟨(some 20), .bin .lss (.t 17) (.t 19), none, []⟩] [0, 4, 20])
  (.cond (.t 20) .skip (.exit 0)))
  (.seq (.block 1 (.seq (.reg false [⟨(some 23), .mov (.t 0), none, []⟩,
    ⟨(some 24), .mov (.t 4), none, []⟩,
    ⟨(some 25), .idxs (.t 23) (.t 24), none, []⟩,
    ⟨(some 26), .bin .lss (.t 25) (.c (.int .u8 48)), none, []⟩,
    ⟨(some 27), .mov (.t 26), none, []⟩,
    ⟨(some 28), .mov (.t 0), (some (27, false)), []⟩,
    ⟨(some 29), .mov (.t 4), (some (27, false)), []⟩,
    ⟨(some 30), .idxs (.t 28) (.t 29), (some (27, false)), []⟩,
    ⟨(some 31), .bin .gtr (.t 30) (.c (.int .u8 57)), (some (27, false)), []⟩,
    ⟨(some 32), .pick (.t 27) (.c (.bool true)) (.t 31), none, []⟩] [0, 4, 32])
  (.cond (.t 32) (.seq (.reg false [⟨(some 2), .nilrow 1, none, []⟩,
    ⟨(some 3), .mov (.c (.int .i64 2)), none, []⟩] [2, 3])
  .ret) .skip)))
  (.reg false [⟨(some 21), .mov (.t 4), none, []⟩,
    ⟨(some 22), .bin .add (.t 21) (.c (.int .i64 1)), none, []⟩,
    ⟨(some 4), .mov (.t 22), none, []⟩] [0, 4])))
def f19_l1 : VCode :=
  (.seq (.seq (.reg false [⟨(some 42), .mov (.t 8), none, []⟩,
    ⟨(some 43), .mov (.t 6), none, []⟩,
    ⟨(some 44), .bin .lss (.t 42) (.t 43), none, []⟩] [0, 5, 6, 7, 8, 44])
  (.cond (.t 44) .skip (.exit 4)))
  (.seq (.block 5 (.reg false [⟨(some 47), .mov (.t 7), none, []⟩,
    ⟨(some 48), .bin .mul (.c (.int .u32 10)) (.t 47), none, []⟩,
    ⟨(some 49), .mov (.t 0), none, []⟩,
    ⟨(some 50), .mov (.t 8), none, []⟩,
    ⟨(some 51), .idxs (.t 49) (.t 50), none, []⟩,
    ⟨(some 52), .bin .sub (.t 51) (.c (.int .u8 48)), none, []⟩,
    ⟨(some 53), .conv (.toInt .u32) (.t 52), none, []⟩,
    ⟨(some 54), .bin .add (.t 48) (.t 53), none, []⟩,
    ⟨(some 7), .mov (.t 54), none, []⟩] [0, 5, 6, 7, 8]))
  (.reg false [⟨(some 45), .mov (.t 8), none, []⟩,
    ⟨(some 46), .bin .add (.t 45) (.c (.int .i64 1)), none, []⟩,
    ⟨(some 8), .mov (.t 46), none, []⟩] [0, 5, 6, 7, 8])))
def f19_l2 : VCode :=
  (.seq (.seq (.reg false [⟨(some 35), .mov (.t 6), none, []⟩,
    ⟨(some 36), .bin .gtr (.t 35) (.c (.int .i64 0)), none, []⟩] [0, 5, 6, 36])
  (.cond (.t 36) .skip (.exit 2)))
  (.seq (.block 3 (.seq (.reg false [⟨(some 7), .mov (.c (.int .u32 0)), none, []⟩] [0, 5, 6, 7])
  (.seq (.seq (.reg false [⟨(some 39), .mov (.t 6), none, []⟩,
    ⟨(some 40), .bin .sub (.t 39) (.c (.int .i64 9)), none, []⟩,
    ⟨(some 41), .max [(.c (.int .i64 0)), (.t 40)], none, []⟩,
    ⟨(some 8), .mov (.t 41), none, []⟩] [0, 5, 6, 7, 8])
  (.block 4 (.loop [0, 5, 6, 7, 8] f19_l1)))
  (.reg false [⟨(some 55), .mov (.t 5), none, []⟩,
    ⟨(some 56), .mov (.t 7), none, []⟩,
    ⟨(some 57), .buildRow false 1 1 [(.int .u32 0)] [(0, (.t 56))], none, []⟩,
    ⟨(some 58), .append 1 4 (.t 55) (.t 57), none, []⟩,
    ⟨(some 5), .mov (.t 58), none, []⟩] [0, 5, 6]))))
  (.reg false [⟨(some 37), .mov (.t 6), none, []⟩,
    ⟨(some 38), .bin .sub (.t 37) (.c (.int .i64 9)), none, []⟩,
    ⟨(some 6), .mov (.t 38), none, []⟩] [0, 5, 6])))
def f19_c : VCode :=
  (.seq (.reg false [⟨(some 2), .nilrow 1, none, []⟩,
    ⟨(some 3), .mov (.c (.int .i64 0)), none, []⟩] [0])
  (.seq (.seq (.reg false [⟨(some 9), .mov (.t 0), none, []⟩,
    ⟨(some 10), .lens (.t 9), none, []⟩,
    ⟨(some 11), .bin .lss (.t 10) (.c (.int .i64 1)), none, []⟩,
    ⟨(some 12), .mov (.t 11), none, []⟩,
    ⟨(some 13), .mov (.t 0), (some (12, false)), []⟩,
    ⟨(some 14), .lens (.t 13), (some (12, false)), []⟩,
    ⟨(some 15), .bin .gtr (.t 14) (.c (.int .i64 1048576)), (some (12, false)), []⟩,
    ⟨(some 16), .pick (.t 12) (.c (.bool true)) (.t 15), none, []⟩] [0, 16])
  (.cond (.t 16) (.seq (.reg false [⟨(some 2), .nilrow 1, none, []⟩,
    ⟨(some 3), .mov (.c (.int .i64 2)), none, []⟩] [2, 3])
  .ret) .skip))
  (.seq (.seq (.reg false [⟨(some 4), .mov (.c (.int .i64 0)), none, []⟩] [0, 4])
  (.block 0 (.loop [0, 4] f19_l0)))
  (.seq (.reg false [⟨(some 5), .nilrow 1, none, []⟩] [0, 5])
  (.seq (.seq (.reg false [⟨(some 33), .mov (.t 0), none, []⟩,
    ⟨(some 34), .lens (.t 33), none, []⟩,
    ⟨(some 6), .mov (.t 34), none, []⟩] [0, 5, 6])
  (.block 2 (.loop [0, 5, 6] f19_l2)))
  (.seq (.reg false [⟨(some 59), .mov (.t 5), none, []⟩,
    ⟨(some 60), .call (.c (.func (.func 41) [] [])) [(.t 59)], none, []⟩,
    ⟨(some 2), .mov (.t 60), none, []⟩,
    ⟨(some 3), .mov (.c (.int .i64 0)), none, []⟩] [2, 3])
  .ret))))))
def f19 : VFn := ⟨1, 61, f19_c, [.t 2, .t 3], true, []⟩
/- caliper/nat.Text -/
def f20_l0 : VCode :=
  (.seq (.reg false [⟨(some 24), .bin .lss (.t 23) (.c (.int .i64 9)), none, []⟩] [4, 5, 6, 16, 17, 18, 23, 24])
  (.seq (.cond (.t 24) .skip (.exit 2))
  (.seq (.block 3 (.seq (.reg false [⟨(some 25), .mov (.t 23), none, []⟩,
    ⟨(some 7), .mov (.t 25), none, []⟩] [4, 5, 6, 7, 16, 17, 18, 23])
  (.seq (.reg false [⟨(some 26), .mov (.t 4), none, []⟩,
    ⟨(some 27), .mov (.t 4), none, []⟩,
    ⟨(some 28), .len (.t 27), none, []⟩,
    ⟨(some 29), .bin .sub (.t 28) (.c (.int .i64 1)), none, []⟩,
    ⟨(some 30), .mov (.t 5), none, []⟩,
    ⟨(some 31), .bin .mul (.t 30) (.c (.int .i64 9)), none, []⟩,
    ⟨(some 32), .bin .sub (.t 29) (.t 31), none, []⟩,
    ⟨(some 33), .mov (.t 7), none, []⟩,
    ⟨(some 34), .bin .sub (.t 32) (.t 33), none, []⟩,
    ⟨(some 35), .mov (.t 6), none, []⟩,
    ⟨(some 36), .bin .rem (.t 35) (.c (.int .u32 10)), none, []⟩,
    ⟨(some 37), .conv (.toInt .u8) (.t 36), none, []⟩,
    ⟨(some 38), .bin .add (.c (.int .u8 48)) (.t 37), none, []⟩,
    ⟨(some 39), .iaddr 1 (.t 26) (.t 34), none, []⟩,
    ⟨none, .store false 1 (.t 39) (.t 38), none, []⟩] [4, 5, 6, 16, 17, 18, 23])
  (.reg false [⟨(some 40), .mov (.t 6), none, []⟩,
    ⟨(some 41), .bin .quo (.t 40) (.c (.int .u32 10)), none, []⟩,
    ⟨(some 6), .mov (.t 41), none, []⟩] [4, 5, 6, 16, 17, 18, 23]))))
  (.reg false [⟨(some 42), .bin .add (.t 23) (.c (.int .i64 1)), none, []⟩,
    ⟨(some 23), .mov (.t 42), none, []⟩] [4, 5, 6, 16, 17, 18, 23]))))
def f20_l1 : VCode :=
  (.seq (.reg false [⟨(some 19), .bin .lss (.t 18) (.t 17), none, []⟩] [4, 16, 17, 18, 19])
  (.seq (.cond (.t 19) .skip (.exit 0))
  (.seq (.block 1 (.seq (.reg false [⟨(some 20), .mov (.t 18), none, []⟩,
    ⟨(some 21), .iaddr 1 (.t 16) (.t 18), none, []⟩,
    ⟨(some 22), .load none (.t 21), none, []⟩,
    ⟨(some 5), .mov (.t 20), none, []⟩,
    ⟨(some 6), .mov (.t 22), none, []⟩] [4, 5, 6, 16, 17, 18])
  (.seq (.reg false [⟨(some 23), .mov (.c (.int .i64 0)), none, []⟩] [4, 5, 6, 16, 17, 18, 23])
  (.block 2 (.loop [4, 5, 6, 16, 17, 18, 23] f20_l0)))))
  (.reg false [⟨(some 43), .bin .add (.t 18) (.c (.int .i64 1)), none, []⟩,
    ⟨(some 18), .mov (.t 43), none, []⟩] [4, 16, 17, 18]))))
def f20_c : VCode :=
  (.seq (.reg false [⟨(some 2), .mov (.c (.str ⟨#[]⟩)), none, []⟩,
    ⟨(some 3), .mov (.c (.int .i64 0)), none, []⟩] [0])
  (.seq (.seq (.reg false [⟨(some 9), .mov (.t 0), none, []⟩,
    ⟨(some 10), .call (.c (.func (.func 30) [] [])) [(.t 9)], none, []⟩,
    ⟨(some 11), .un .not (.t 10), none, []⟩] [0, 11])
  (.cond (.t 11) (.seq (.reg false [⟨(some 2), .mov (.c (.str ⟨#[]⟩)), none, []⟩,
    ⟨(some 3), .mov (.c (.int .i64 2)), none, []⟩] [2, 3])
  .ret) .skip))
  (.seq (.reg false [⟨(some 12), .mov (.t 0), none, []⟩,
    ⟨(some 13), .len (.t 12), none, []⟩,
    ⟨(some 14), .bin .mul (.t 13) (.c (.int .i64 9)), none, []⟩,
    ⟨(some 15), .mkslice false 1 1 [(.int .u8 0)] (.t 14) (.t 14), none, []⟩,
    ⟨(some 4), .mov (.t 15), none, []⟩] [0, 4])
  (.seq (.seq (.reg false [⟨(some 16), .mov (.t 0), none, []⟩,
    ⟨(some 17), .len (.t 16), none, []⟩,
    ⟨(some 18), .mov (.c (.int .i64 0)), none, []⟩] [4, 16, 17, 18])
  (.block 0 (.loop [4, 16, 17, 18] f20_l1)))
  (.seq (.reg false [⟨(some 44), .mov (.t 4), none, []⟩,
    ⟨(some 45), .conv .bytesToStr (.t 44), none, []⟩,
    ⟨(some 46), .call (.c (.func (.func 42) [] [])) [(.t 45), (.c (.str ⟨#[48]⟩))], none, []⟩,
    ⟨(some 8), .mov (.t 46), none, []⟩] [8])
  (.seq (.seq (.reg false [⟨(some 47), .mov (.t 8), none, []⟩,
    ⟨(some 48), .bin .eql (.t 47) (.c (.str ⟨#[]⟩)), none, []⟩] [8, 48])
  (.cond (.t 48) (.reg false [⟨(some 8), .mov (.c (.str ⟨#[48]⟩)), none, []⟩] [8]) .skip))
  (.seq (.reg false [⟨(some 49), .mov (.t 8), none, []⟩,
    ⟨(some 2), .mov (.t 49), none, []⟩,
    ⟨(some 3), .mov (.c (.int .i64 0)), none, []⟩] [2, 3])
  .ret)))))))
def f20 : VFn := ⟨1, 50, f20_c, [.t 2, .t 3], true, []⟩
/- caliper/caliperref02.Text -/
def f21_l0 : VCode :=
  (.seq (.seq (.reg false [⟨(some 29), .mov (.t 7), none, []⟩,
    ⟨(some 30), .bin .lss (.t 29) (.c (.int .i64 9)), none, []⟩] [0, 4, 5, 6, 7, 30])
  (.cond (.t 30) .skip (.exit 2)))
  (.seq (.block 3 (.seq (.reg false [⟨(some 33), .mov (.t 4), none, []⟩,
    ⟨(some 34), .mov (.t 4), none, []⟩,
    ⟨(some 35), .len (.t 34), none, []⟩,
    ⟨(some 36), .bin .sub (.t 35) (.c (.int .i64 1)), none, []⟩,
    ⟨(some 37), .mov (.t 5), none, []⟩,
    ⟨(some 38), .bin .mul (.c (.int .i64 9)) (.t 37), none, []⟩,
    ⟨(some 39), .bin .sub (.t 36) (.t 38), none, []⟩,
    ⟨(some 40), .mov (.t 7), none, []⟩,
    ⟨(some 41), .bin .sub (.t 39) (.t 40), none, []⟩,
    ⟨(some 42), .mov (.t 6), none, []⟩,
    ⟨(some 43), .bin .rem (.t 42) (.c (.int .u32 10)), none, []⟩,
    ⟨(some 44), .bin .add (.c (.int .u32 48)) (.t 43), none, []⟩,
    ⟨(some 45), .conv (.toInt .u8) (.t 44), none, []⟩,
    ⟨(some 46), .iaddr 1 (.t 33) (.t 41), none, []⟩,
    ⟨none, .store false 1 (.t 46) (.t 45), none, []⟩] [0, 4, 5, 6, 7])
  (.reg false [⟨(some 47), .mov (.t 6), none, []⟩,
    ⟨(some 48), .bin .quo (.t 47) (.c (.int .u32 10)), none, []⟩,
    ⟨(some 6), .mov (.t 48), none, []⟩] [0, 4, 5, 6, 7])))
  (.reg false [⟨(some 31), .mov (.t 7), none, []⟩,
    ⟨(some 32), .bin .add (.t 31) (.c (.int .i64 1)), none, []⟩,
    ⟨(some 7), .mov (.t 32), none, []⟩] [0, 4, 5, 6, 7])))
def f21_l1 : VCode :=
  (.seq (.seq (.reg false [⟨(some 19), .mov (.t 5), none, []⟩,
    ⟨(some 20), .mov (.t 0), none, []⟩,
    ⟨(some 21), .len (.t 20), none, []⟩,
    ⟨(some 22), .bin .lss (.t 19) (.t 21), none, []⟩] [0, 4, 5, 22])
  (.cond (.t 22) .skip (.exit 0)))
  (.seq (.block 1 (.seq (.reg false [⟨(some 25), .mov (.t 0), none, []⟩,
    ⟨(some 26), .mov (.t 5), none, []⟩,
    ⟨(some 27), .iaddr 1 (.t 25) (.t 26), none, []⟩,
    ⟨(some 28), .load none (.t 27), none, []⟩,
    ⟨(some 6), .mov (.t 28), none, []⟩] [0, 4, 5, 6])
  (.seq (.reg false [⟨(some 7), .mov (.c (.int .i64 0)), none, []⟩] [0, 4, 5, 6, 7])
  (.block 2 (.loop [0, 4, 5, 6, 7] f21_l0)))))
  (.reg false [⟨(some 23), .mov (.t 5), none, []⟩,
    ⟨(some 24), .bin .add (.t 23) (.c (.int .i64 1)), none, []⟩,
    ⟨(some 5), .mov (.t 24), none, []⟩] [0, 4, 5])))
def f21_l2 : VCode :=
  (.seq (.seq (.reg false [⟨(some 49), .mov (.t 4), none, []⟩,
    ⟨(some 50), .mov (.t 8), none, []⟩,
    ⟨(some 51), .iaddr 1 (.t 49) (.t 50), none, []⟩,
    ⟨(some 52), .load none (.t 51), none, []⟩,
    ⟨(some 53), .bin .eql (.t 52) (.c (.int .u8 48)), none, []⟩] [4, 8, 53])
  (.cond (.t 53) .skip (.exit 4)))
  (.block 5 (.reg false [⟨(some 54), .mov (.t 8), none, []⟩,
    ⟨(some 55), .bin .add (.t 54) (.c (.int .i64 1)), none, []⟩,
    ⟨(some 8), .mov (.t 55), none, []⟩] [4, 8])))
def f21_c : VCode :=
  (.seq (.reg false [⟨(some 2), .mov (.c (.str ⟨#[]⟩)), none, []⟩,
    ⟨(some 3), .mov (.c (.int .i64 0)), none, []⟩] [0])
  (.seq (.seq (.reg false [⟨(some 9), .mov (.t 0), none, []⟩,
    ⟨(some 10), .call (.c (.func (.func 22) [] [])) [(.t 9)], none, []⟩,
    ⟨(some 11), .bin .neq (.t 10) (.c (.int .i64 0)), none, []⟩] [0, 11])
  (.cond (.t 11) (.seq (.reg false [⟨(some 2), .mov (.c (.str ⟨#[]⟩)), none, []⟩,
    ⟨(some 3), .mov (.c (.int .i64 2)), none, []⟩] [2, 3])
  .ret) .skip))
  (.seq (.seq (.reg false [⟨(some 12), .mov (.t 0), none, []⟩,
    ⟨(some 13), .len (.t 12), none, []⟩,
    ⟨(some 14), .bin .eql (.t 13) (.c (.int .i64 0)), none, []⟩] [0, 14])
  (.cond (.t 14) (.seq (.reg false [⟨(some 2), .mov (.c (.str ⟨#[48]⟩)), none, []⟩,
    ⟨(some 3), .mov (.c (.int .i64 0)), none, []⟩] [2, 3])
  .ret) .skip))
  (.seq (.reg false [⟨(some 15), .mov (.t 0), none, []⟩,
    ⟨(some 16), .len (.t 15), none, []⟩,
    ⟨(some 17), .bin .mul (.c (.int .i64 9)) (.t 16), none, []⟩,
    ⟨(some 18), .mkslice false 1 1 [(.int .u8 0)] (.t 17) (.t 17), none, []⟩,
    ⟨(some 4), .mov (.t 18), none, []⟩] [0, 4])
  (.seq (.seq (.reg false [⟨(some 5), .mov (.c (.int .i64 0)), none, []⟩] [0, 4, 5])
  (.block 0 (.loop [0, 4, 5] f21_l1)))
  (.seq (.reg false [⟨(some 8), .mov (.c (.int .i64 0)), none, []⟩] [4, 8])
  (.seq (.block 4 (.loop [4, 8] f21_l2))
  (.seq (.reg false [⟨(some 56), .mov (.t 4), none, []⟩,
    ⟨(some 57), .mov (.t 8), none, []⟩,
    ⟨(some 58), .sl 1 (.t 56) (some (.t 57)) none none, none, []⟩,
    ⟨(some 59), .conv .bytesToStr (.t 58), none, []⟩,
    ⟨(some 2), .mov (.t 59), none, []⟩,
    ⟨(some 3), .mov (.c (.int .i64 0)), none, []⟩] [2, 3])
  .ret))))))))
def f21 : VFn := ⟨1, 60, f21_c, [.t 2, .t 3], true, []⟩
/- caliper/caliperref02.Check -/
def f22_l0 : VCode :=
  (.seq (.seq (.reg false [⟨(some 4), .mov (.t 3), none, []⟩,
    ⟨(some 5), .mov (.t 0), none, []⟩,
    ⟨(some 6), .len (.t 5), none, []⟩,
    ⟨(some 7), .bin .lss (.t 4) (.t 6), none, []⟩] [0, 3, 7])
  (.cond (.t 7) .skip (.exit 0)))
  (.seq (.block 1 (.seq (.reg false [⟨(some 10), .mov (.t 0), none, []⟩,
    ⟨(some 11), .mov (.t 3), none, []⟩,
    ⟨(some 12), .iaddr 1 (.t 10) (.t 11), none, []⟩,
    ⟨(some 13), .load none (.t 12), none, []⟩,
    ⟨(some 14), .bin .geq (.t 13) (.c (.int .u32 1000000000)), none, []⟩] [0, 3, 14])
  (.cond (.t 14) (.seq (.reg false [⟨(some 2), .mov (.c (.int .i64 2)), none, []⟩] [2])
  .ret) .skip)))
  (.reg false [⟨(some 8), .mov (.t 3), none, []⟩,
    ⟨(some 9), .bin .add (.t 8) (.c (.int .i64 1)), none, []⟩,
    ⟨(some 3), .mov (.t 9), none, []⟩] [0, 3])))
def f22_c : VCode :=
  (.seq (.reg false [⟨(some 2), .mov (.c (.int .i64 0)), none, []⟩] [0])
  (.seq (.seq (.reg false [⟨(some 3), .mov (.c (.int .i64 0)), none, []⟩] [0, 3])
  (.block 0 (.loop [0, 3] f22_l0)))
  (.seq (.seq (.reg false [⟨(some 15), .mov (.t 0), none, []⟩,
    ⟨(some 16), .len (.t 15), none, []⟩,
    ⟨(some 17), .bin .gtr (.t 16) (.c (.int .i64 0)), none, []⟩,
    ⟨(some 18), .mov (.t 17), none, []⟩,
    ⟨(some 19), .mov (.t 0), (some (18, true)), []⟩,
    ⟨(some 20), .mov (.t 0), (some (18, true)), []⟩,
    ⟨(some 21), .len (.t 20), (some (18, true)), []⟩,
    ⟨(some 22), .bin .sub (.t 21) (.c (.int .i64 1)), (some (18, true)), []⟩,
    ⟨(some 23), .iaddr 1 (.t 19) (.t 22), (some (18, true)), []⟩,
    ⟨(some 24), .load none (.t 23), (some (18, true)), []⟩,
    ⟨(some 25), .bin .eql (.t 24) (.c (.int .u32 0)), (some (18, true)), []⟩,
    ⟨(some 26), .pick (.t 18) (.t 25) (.c (.bool false)), none, []⟩] [26])
  (.cond (.t 26) (.seq (.reg false [⟨(some 2), .mov (.c (.int .i64 2)), none, []⟩] [2])
  .ret) .skip))
  (.seq (.reg false [⟨(some 2), .mov (.c (.int .i64 0)), none, []⟩] [2])
  .ret))))
def f22 : VFn := ⟨1, 27, f22_c, [.t 2], true, []⟩
/- caliper/caliperref02.Copy -/
def f23_c : VCode :=
  (.seq (.reg false [⟨(some 2), .nilrow 1, none, []⟩] [0])
  (.seq (.reg false [⟨(some 3), .buildRow false 1 0 [(.int .u32 0)] [], none, []⟩,
    ⟨(some 4), .mov (.t 0), none, []⟩,
    ⟨(some 5), .append 1 4 (.t 3) (.t 4), none, []⟩,
    ⟨(some 2), .mov (.t 5), none, []⟩] [2])
  .ret))
def f23 : VFn := ⟨1, 6, f23_c, [.t 2], true, []⟩
/- caliper/caliperref02.Compare -/
def f24_c : VCode :=
  (.seq (.reg false [⟨(some 4), .mov (.c (.int .i64 0)), none, []⟩,
    ⟨(some 5), .mov (.c (.int .i64 0)), none, []⟩] [0, 1])
  (.seq (.seq (.reg false [⟨(some 6), .mov (.t 0), none, []⟩,
    ⟨(some 7), .call (.c (.func (.func 22) [] [])) [(.t 6)], none, []⟩,
    ⟨(some 8), .bin .neq (.t 7) (.c (.int .i64 0)), none, []⟩,
    ⟨(some 9), .mov (.t 8), none, []⟩,
    ⟨(some 10), .mov (.t 1), (some (9, false)), []⟩,
    ⟨(some 11), .call (.c (.func (.func 22) [] [])) [(.t 10)], (some (9, false)), []⟩,
    ⟨(some 12), .bin .neq (.t 11) (.c (.int .i64 0)), (some (9, false)), []⟩,
    ⟨(some 13), .pick (.t 9) (.c (.bool true)) (.t 12), none, []⟩] [0, 1, 13])
  (.cond (.t 13) (.seq (.reg false [⟨(some 4), .mov (.c (.int .i64 0)), none, []⟩,
    ⟨(some 5), .mov (.c (.int .i64 2)), none, []⟩] [4, 5])
  .ret) .skip))
  (.seq (.reg false [⟨(some 14), .mov (.t 0), none, []⟩,
    ⟨(some 15), .mov (.t 1), none, []⟩,
    ⟨(some 16), .call (.c (.func (.func 43) [] [])) [(.t 14), (.t 15)], none, []⟩,
    ⟨(some 4), .mov (.t 16), none, []⟩,
    ⟨(some 5), .mov (.c (.int .i64 0)), none, []⟩] [4, 5])
  .ret)))
def f24 : VFn := ⟨2, 17, f24_c, [.t 4, .t 5], true, []⟩
/- caliper/caliperref02.Add -/
def f25_l0 : VCode :=
  (.seq (.seq (.reg false [⟨(some 18), .mov (.t 8), none, []⟩,
    ⟨(some 19), .mov (.t 0), none, []⟩,
    ⟨(some 20), .len (.t 19), none, []⟩,
    ⟨(some 21), .mov (.t 1), none, []⟩,
    ⟨(some 22), .len (.t 21), none, []⟩,
    ⟨(some 23), .max [(.t 20), (.t 22)], none, []⟩,
    ⟨(some 24), .bin .lss (.t 18) (.t 23), none, []⟩] [0, 1, 6, 7, 8, 24])
  (.cond (.t 24) .skip (.exit 0)))
  (.seq (.block 1 (.seq (.reg false [⟨(some 27), .mov (.t 7), none, []⟩,
    ⟨(some 9), .mov (.t 27), none, []⟩] [0, 1, 6, 8, 9])
  (.seq (.seq (.reg false [⟨(some 28), .mov (.t 8), none, []⟩,
    ⟨(some 29), .mov (.t 0), none, []⟩,
    ⟨(some 30), .len (.t 29), none, []⟩,
    ⟨(some 31), .bin .lss (.t 28) (.t 30), none, []⟩] [0, 1, 6, 8, 9, 31])
  (.cond (.t 31) (.reg false [⟨(some 32), .mov (.t 9), none, []⟩,
    ⟨(some 33), .mov (.t 0), none, []⟩,
    ⟨(some 34), .mov (.t 8), none, []⟩,
    ⟨(some 35), .iaddr 1 (.t 33) (.t 34), none, []⟩,
    ⟨(some 36), .load none (.t 35), none, []⟩,
    ⟨(some 37), .conv (.toInt .u64) (.t 36), none, []⟩,
    ⟨(some 38), .bin .add (.t 32) (.t 37), none, []⟩,
    ⟨(some 9), .mov (.t 38), none, []⟩] [0, 1, 6, 8, 9]) .skip))
  (.seq (.seq (.reg false [⟨(some 39), .mov (.t 8), none, []⟩,
    ⟨(some 40), .mov (.t 1), none, []⟩,
    ⟨(some 41), .len (.t 40), none, []⟩,
    ⟨(some 42), .bin .lss (.t 39) (.t 41), none, []⟩] [0, 1, 6, 8, 9, 42])
  (.cond (.t 42) (.reg false [⟨(some 43), .mov (.t 9), none, []⟩,
    ⟨(some 44), .mov (.t 1), none, []⟩,
    ⟨(some 45), .mov (.t 8), none, []⟩,
    ⟨(some 46), .iaddr 1 (.t 44) (.t 45), none, []⟩,
    ⟨(some 47), .load none (.t 46), none, []⟩,
    ⟨(some 48), .conv (.toInt .u64) (.t 47), none, []⟩,
    ⟨(some 49), .bin .add (.t 43) (.t 48), none, []⟩,
    ⟨(some 9), .mov (.t 49), none, []⟩] [0, 1, 6, 8, 9]) .skip))
  (.seq (.reg false [⟨(some 50), .mov (.t 6), none, []⟩,
    ⟨(some 51), .mov (.t 9), none, []⟩,
    ⟨(some 52), .bin .rem (.t 51) (.c (.int .u64 1000000000)), none, []⟩,
    ⟨(some 53), .conv (.toInt .u32) (.t 52), none, []⟩,
    ⟨(some 54), .buildRow false 1 1 [(.int .u32 0)] [(0, (.t 53))], none, []⟩,
    ⟨(some 55), .append 1 4 (.t 50) (.t 54), none, []⟩,
    ⟨(some 6), .mov (.t 55), none, []⟩] [0, 1, 6, 8, 9])
  (.reg false [⟨(some 56), .mov (.t 9), none, []⟩,
    ⟨(some 57), .bin .quo (.t 56) (.c (.int .u64 1000000000)), none, []⟩,
    ⟨(some 7), .mov (.t 57), none, []⟩] [0, 1, 6, 7, 8]))))))
  (.reg false [⟨(some 25), .mov (.t 8), none, []⟩,
    ⟨(some 26), .bin .add (.t 25) (.c (.int .i64 1)), none, []⟩,
    ⟨(some 8), .mov (.t 26), none, []⟩] [0, 1, 6, 7, 8])))
def f25_c : VCode :=
  (.seq (.reg false [⟨(some 4), .nilrow 1, none, []⟩,
    ⟨(some 5), .mov (.c (.int .i64 0)), none, []⟩] [0, 1])
  (.seq (.seq (.reg false [⟨(some 10), .mov (.t 0), none, []⟩,
    ⟨(some 11), .call (.c (.func (.func 22) [] [])) [(.t 10)], none, []⟩,
    ⟨(some 12), .bin .neq (.t 11) (.c (.int .i64 0)), none, []⟩,
    ⟨(some 13), .mov (.t 12), none, []⟩,
    ⟨(some 14), .mov (.t 1), (some (13, false)), []⟩,
    ⟨(some 15), .call (.c (.func (.func 22) [] [])) [(.t 14)], (some (13, false)), []⟩,
    ⟨(some 16), .bin .neq (.t 15) (.c (.int .i64 0)), (some (13, false)), []⟩,
    ⟨(some 17), .pick (.t 13) (.c (.bool true)) (.t 16), none, []⟩] [0, 1, 17])
  (.cond (.t 17) (.seq (.reg false [⟨(some 4), .nilrow 1, none, []⟩,
    ⟨(some 5), .mov (.c (.int .i64 2)), none, []⟩] [4, 5])
  .ret) .skip))
  (.seq (.reg false [⟨(some 6), .nilrow 1, none, []⟩] [0, 1, 6])
  (.seq (.reg false [⟨(some 7), .mov (.c (.int .u64 0)), none, []⟩] [0, 1, 6, 7])
  (.seq (.seq (.reg false [⟨(some 8), .mov (.c (.int .i64 0)), none, []⟩] [0, 1, 6, 7, 8])
  (.block 0 (.loop [0, 1, 6, 7, 8] f25_l0)))
  (.seq (.reg false [⟨(some 58), .mov (.t 6), none, []⟩,
    ⟨(some 59), .mov (.t 7), none, []⟩,
    ⟨(some 60), .conv (.toInt .u32) (.t 59), none, []⟩,
    ⟨(some 61), .buildRow false 1 1 [(.int .u32 0)] [(0, (.t 60))], none, []⟩,
    ⟨(some 62), .append 1 4 (.t 58) (.t 61), none, []⟩,
    ⟨(some 63), .call (.c (.func (.func 41) [] [])) [(.t 62)], none, []⟩,
    ⟨(some 4), .mov (.t 63), none, []⟩,
    ⟨(some 5), .mov (.c (.int .i64 0)), none, []⟩] [4, 5])
  .ret))))))
def f25 : VFn := ⟨2, 64, f25_c, [.t 4, .t 5], true, []⟩
/- caliper/caliperref02.Sub -/
def f26_c : VCode :=
  (.seq (.reg false [⟨(some 4), .nilrow 1, none, []⟩,
    ⟨(some 5), .mov (.c (.int .i64 0)), none, []⟩] [0, 1])
  (.seq (.seq (.reg false [⟨(some 6), .mov (.t 0), none, []⟩,
    ⟨(some 7), .call (.c (.func (.func 22) [] [])) [(.t 6)], none, []⟩,
    ⟨(some 8), .bin .neq (.t 7) (.c (.int .i64 0)), none, []⟩,
    ⟨(some 9), .mov (.t 8), none, []⟩,
    ⟨(some 10), .mov (.t 1), (some (9, false)), []⟩,
    ⟨(some 11), .call (.c (.func (.func 22) [] [])) [(.t 10)], (some (9, false)), []⟩,
    ⟨(some 12), .bin .neq (.t 11) (.c (.int .i64 0)), (some (9, false)), []⟩,
    ⟨(some 13), .pick (.t 9) (.c (.bool true)) (.t 12), none, []⟩,
    ⟨(some 14), .mov (.t 13), none, []⟩,
    ⟨(some 15), .mov (.t 0), (some (14, false)), []⟩,
    ⟨(some 16), .mov (.t 1), (some (14, false)), []⟩,
    ⟨(some 17), .call (.c (.func (.func 43) [] [])) [(.t 15), (.t 16)], (some (14, false)), []⟩,
    ⟨(some 18), .bin .lss (.t 17) (.c (.int .i64 0)), (some (14, false)), []⟩,
    ⟨(some 19), .pick (.t 14) (.c (.bool true)) (.t 18), none, []⟩] [0, 1, 19])
  (.cond (.t 19) (.seq (.reg false [⟨(some 4), .nilrow 1, none, []⟩,
    ⟨(some 5), .mov (.c (.int .i64 2)), none, []⟩] [4, 5])
  .ret) .skip))
  (.seq (.reg false [⟨(some 20), .mov (.t 0), none, []⟩,
    ⟨(some 21), .mov (.t 1), none, []⟩,
    ⟨(some 22), .call (.c (.func (.func 44) [] [])) [(.t 20), (.t 21)], none, []⟩,
    ⟨(some 4), .mov (.t 22), none, []⟩,
    ⟨(some 5), .mov (.c (.int .i64 0)), none, []⟩] [4, 5])
  .ret)))
def f26 : VFn := ⟨2, 23, f26_c, [.t 4, .t 5], true, []⟩
/- caliper/caliperref02.Mul -/
def f27_c : VCode :=
  (.seq (.reg false [⟨(some 4), .nilrow 1, none, []⟩,
    ⟨(some 5), .mov (.c (.int .i64 0)), none, []⟩] [0, 1])
  (.seq (.seq (.reg false [⟨(some 6), .mov (.t 0), none, []⟩,
    ⟨(some 7), .call (.c (.func (.func 22) [] [])) [(.t 6)], none, []⟩,
    ⟨(some 8), .bin .neq (.t 7) (.c (.int .i64 0)), none, []⟩,
    ⟨(some 9), .mov (.t 8), none, []⟩,
    ⟨(some 10), .mov (.t 1), (some (9, false)), []⟩,
    ⟨(some 11), .call (.c (.func (.func 22) [] [])) [(.t 10)], (some (9, false)), []⟩,
    ⟨(some 12), .bin .neq (.t 11) (.c (.int .i64 0)), (some (9, false)), []⟩,
    ⟨(some 13), .pick (.t 9) (.c (.bool true)) (.t 12), none, []⟩] [0, 1, 13])
  (.cond (.t 13) (.seq (.reg false [⟨(some 4), .nilrow 1, none, []⟩,
    ⟨(some 5), .mov (.c (.int .i64 2)), none, []⟩] [4, 5])
  .ret) .skip))
  (.seq (.reg false [⟨(some 14), .mov (.t 0), none, []⟩,
    ⟨(some 15), .mov (.t 1), none, []⟩,
    ⟨(some 16), .call (.c (.func (.func 45) [] [])) [(.t 14), (.t 15)], none, []⟩,
    ⟨(some 4), .mov (.t 16), none, []⟩,
    ⟨(some 5), .mov (.c (.int .i64 0)), none, []⟩] [4, 5])
  .ret)))
def f27 : VFn := ⟨2, 17, f27_c, [.t 4, .t 5], true, []⟩
/- caliper/caliperref02.Div -/
def f28_c : VCode :=
  (.seq (.reg false [⟨(some 4), .nilrow 1, none, []⟩,
    ⟨(some 5), .nilrow 1, none, []⟩,
    ⟨(some 6), .mov (.c (.int .i64 0)), none, []⟩] [0, 1])
  (.seq (.seq (.reg false [⟨(some 9), .mov (.t 0), none, []⟩,
    ⟨(some 10), .call (.c (.func (.func 22) [] [])) [(.t 9)], none, []⟩,
    ⟨(some 11), .bin .neq (.t 10) (.c (.int .i64 0)), none, []⟩,
    ⟨(some 12), .mov (.t 11), none, []⟩,
    ⟨(some 13), .mov (.t 1), (some (12, false)), []⟩,
    ⟨(some 14), .call (.c (.func (.func 22) [] [])) [(.t 13)], (some (12, false)), []⟩,
    ⟨(some 15), .bin .neq (.t 14) (.c (.int .i64 0)), (some (12, false)), []⟩,
    ⟨(some 16), .pick (.t 12) (.c (.bool true)) (.t 15), none, []⟩] [0, 1, 16])
  (.cond (.t 16) (.seq (.reg false [⟨(some 4), .nilrow 1, none, []⟩,
    ⟨(some 5), .nilrow 1, none, []⟩,
    ⟨(some 6), .mov (.c (.int .i64 2)), none, []⟩] [4, 5, 6])
  .ret) .skip))
  (.seq (.seq (.reg false [⟨(some 17), .mov (.t 1), none, []⟩,
    ⟨(some 18), .len (.t 17), none, []⟩,
    ⟨(some 19), .bin .eql (.t 18) (.c (.int .i64 0)), none, []⟩] [0, 1, 19])
  (.cond (.t 19) (.seq (.reg false [⟨(some 4), .nilrow 1, none, []⟩,
    ⟨(some 5), .nilrow 1, none, []⟩,
    ⟨(some 6), .mov (.c (.int .i64 20)), none, []⟩] [4, 5, 6])
  .ret) .skip))
  (.seq (.reg false [⟨(some 21), .mov (.t 0), none, []⟩,
    ⟨(some 22), .mov (.t 1), none, []⟩,
    ⟨(some 23), .call (.c (.func (.func 46) [] [])) [(.t 21), (.t 22)], none, []⟩,
    ⟨(some 20), .mov (.t 23), none, []⟩,
    ⟨(some 24), .extract (.t 20) 0, none, []⟩,
    ⟨(some 25), .extract (.t 20) 1, none, []⟩,
    ⟨(some 7), .mov (.t 24), none, []⟩,
    ⟨(some 8), .mov (.t 25), none, []⟩] [7, 8])
  (.seq (.reg false [⟨(some 26), .mov (.t 7), none, []⟩,
    ⟨(some 27), .mov (.t 8), none, []⟩,
    ⟨(some 4), .mov (.t 26), none, []⟩,
    ⟨(some 5), .mov (.t 27), none, []⟩,
    ⟨(some 6), .mov (.c (.int .i64 0)), none, []⟩] [4, 5, 6])
  .ret)))))
def f28 : VFn := ⟨2, 28, f28_c, [.t 4, .t 5, .t 6], true, []⟩
/- caliper/caliperref02.Power -/
def f29_l0 : VCode :=
  (.seq (.seq (.reg false [⟨(some 37), .mov (.t 1), none, []⟩,
    ⟨(some 38), .bin .gtr (.t 37) (.c (.int .i64 0)), none, []⟩] [1, 2, 9, 11, 38])
  (.cond (.t 38) .skip (.exit 0)))
  (.block 1 (.seq (.seq (.reg false [⟨(some 39), .mov (.t 1), none, []⟩,
    ⟨(some 40), .bin .rem (.t 39) (.c (.int .i64 2)), none, []⟩,
    ⟨(some 41), .bin .eql (.t 40) (.c (.int .i64 1)), none, []⟩] [1, 2, 9, 11, 41])
  (.cond (.t 41) (.reg false [⟨(some 43), .mov (.t 9), none, []⟩,
    ⟨(some 44), .mov (.t 11), none, []⟩,
    ⟨(some 45), .call (.c (.func (.func 45) [] [])) [(.t 43), (.t 44)], none, []⟩,
    ⟨(some 46), .mov (.t 2), none, []⟩,
    ⟨(some 47), .call (.c (.func (.func 46) [] [])) [(.t 45), (.t 46)], none, []⟩,
    ⟨(some 42), .mov (.t 47), none, []⟩,
    ⟨(some 48), .extract (.t 42) 0, none, []⟩,
    ⟨(some 49), .extract (.t 42) 1, none, []⟩,
    ⟨(some 9), .mov (.t 49), none, []⟩] [1, 2, 9, 11]) .skip))
  (.seq (.reg false [⟨(some 51), .mov (.t 11), none, []⟩,
    ⟨(some 52), .mov (.t 11), none, []⟩,
    ⟨(some 53), .call (.c (.func (.func 45) [] [])) [(.t 51), (.t 52)], none, []⟩,
    ⟨(some 54), .mov (.t 2), none, []⟩,
    ⟨(some 55), .call (.c (.func (.func 46) [] [])) [(.t 53), (.t 54)], none, []⟩,
    ⟨(some 50), .mov (.t 55), none, []⟩,
    ⟨(some 56), .extract (.t 50) 0, none, []⟩,
    ⟨(some 57), .extract (.t 50) 1, none, []⟩,
    ⟨(some 11), .mov (.t 57), none, []⟩] [1, 2, 9, 11])
  (.reg false [⟨(some 58), .mov (.t 1), none, []⟩,
    ⟨(some 59), .bin .quo (.t 58) (.c (.int .i64 2)), none, []⟩,
    ⟨(some 1), .mov (.t 59), none, []⟩] [1, 2, 9, 11])))))
def f29_c : VCode :=
  (.seq (.reg false [⟨(some 6), .nilrow 1, none, []⟩,
    ⟨(some 7), .mov (.c (.int .i64 0)), none, []⟩] [0, 1, 2])
  (.seq (.seq (.reg false [⟨(some 12), .mov (.t 0), none, []⟩,
    ⟨(some 13), .call (.c (.func (.func 22) [] [])) [(.t 12)], none, []⟩,
    ⟨(some 14), .bin .neq (.t 13) (.c (.int .i64 0)), none, []⟩,
    ⟨(some 15), .mov (.t 14), none, []⟩,
    ⟨(some 16), .mov (.t 2), (some (15, false)), []⟩,
    ⟨(some 17), .call (.c (.func (.func 22) [] [])) [(.t 16)], (some (15, false)), []⟩,
    ⟨(some 18), .bin .neq (.t 17) (.c (.int .i64 0)), (some (15, false)), []⟩,
    ⟨(some 19), .pick (.t 15) (.c (.bool true)) (.t 18), none, []⟩] [0, 1, 2, 19])
  (.cond (.t 19) (.seq (.reg false [⟨(some 6), .nilrow 1, none, []⟩,
    ⟨(some 7), .mov (.c (.int .i64 2)), none, []⟩] [6, 7])
  .ret) .skip))
  (.seq (.seq (.reg false [⟨(some 20), .mov (.t 2), none, []⟩,
    ⟨(some 21), .len (.t 20), none, []⟩,
    ⟨(some 22), .bin .eql (.t 21) (.c (.int .i64 0)), none, []⟩] [0, 1, 2, 22])
  (.cond (.t 22) (.seq (.reg false [⟨(some 6), .nilrow 1, none, []⟩,
    ⟨(some 7), .mov (.c (.int .i64 20)), none, []⟩] [6, 7])
  .ret) .skip))
  (.seq (.seq (.reg false [⟨(some 23), .mov (.t 1), none, []⟩,
    ⟨(some 24), .bin .lss (.t 23) (.c (.int .i64 0)), none, []⟩] [0, 1, 2, 24])
  (.cond (.t 24) (.seq (.reg false [⟨(some 6), .nilrow 1, none, []⟩,
    ⟨(some 7), .mov (.c (.int .i64 2)), none, []⟩] [6, 7])
  .ret) .skip))
  (.seq (.reg false [⟨(some 26), .buildRow false 1 1 [(.int .u32 0)] [(0, (.c (.int .u32 1)))], none, []⟩,
    ⟨(some 27), .mov (.t 2), none, []⟩,
    ⟨(some 28), .call (.c (.func (.func 46) [] [])) [(.t 26), (.t 27)], none, []⟩,
    ⟨(some 25), .mov (.t 28), none, []⟩,
    ⟨(some 29), .extract (.t 25) 0, none, []⟩,
    ⟨(some 30), .extract (.t 25) 1, none, []⟩,
    ⟨(some 8), .mov (.t 29), none, []⟩,
    ⟨(some 9), .mov (.t 30), none, []⟩] [0, 1, 2, 9])
  (.seq (.reg false [⟨(some 32), .mov (.t 0), none, []⟩,
    ⟨(some 33), .mov (.t 2), none, []⟩,
    ⟨(some 34), .call (.c (.func (.func 46) [] [])) [(.t 32), (.t 33)], none, []⟩,
    ⟨(some 31), .mov (.t 34), none, []⟩,
    ⟨(some 35), .extract (.t 31) 0, none, []⟩,
    ⟨(some 36), .extract (.t 31) 1, none, []⟩,
    ⟨(some 10), .mov (.t 35), none, []⟩,
    ⟨(some 11), .mov (.t 36), none, []⟩] [1, 2, 9, 11])
  (.seq (.block 0 (.loop [1, 2, 9, 11] f29_l0))
  (.seq (.reg false [⟨(some 60), .mov (.t 9), none, []⟩,
    ⟨(some 6), .mov (.t 60), none, []⟩,
    ⟨(some 7), .mov (.c (.int .i64 0)), none, []⟩] [6, 7])
  .ret))))))))
def f29 : VFn := ⟨3, 61, f29_c, [.t 6, .t 7], true, []⟩
/- caliper/nat.fits -/
def f30_c : VCode :=
  (.seq (.reg false [⟨(some 2), .mov (.c (.bool false)), none, []⟩] [0])
  (.seq (.reg false [⟨(some 3), .mov (.t 0), none, []⟩,
    ⟨(some 4), .len (.t 3), none, []⟩,
    ⟨(some 5), .bin .eql (.t 4) (.c (.int .i64 0)), none, []⟩,
    ⟨(some 6), .mov (.t 5), none, []⟩,
    ⟨(some 7), .mov (.t 0), (some (6, false)), []⟩,
    ⟨(some 8), .mov (.t 0), (some (6, false)), []⟩,
    ⟨(some 9), .len (.t 8), (some (6, false)), []⟩,
    ⟨(some 10), .bin .sub (.t 9) (.c (.int .i64 1)), (some (6, false)), []⟩,
    ⟨(some 11), .iaddr 1 (.t 7) (.t 10), (some (6, false)), []⟩,
    ⟨(some 12), .load none (.t 11), (some (6, false)), []⟩,
    ⟨(some 13), .bin .neq (.t 12) (.c (.int .u32 0)), (some (6, false)), []⟩,
    ⟨(some 14), .mov (.t 13), (some (6, false)), []⟩,
    ⟨(some 15), .mov (.t 0), (some (14, true)), []⟩,
    ⟨(some 16), .call (.c (.func (.func 47) [] [])) [(.t 15)], (some (14, true)), []⟩,
    ⟨(some 17), .bin .lss (.t 16) (.c (.int .u32 1000000000)), (some (14, true)), []⟩,
    ⟨(some 18), .pick (.t 14) (.t 17) (.c (.bool false)), (some (6, false)), []⟩,
    ⟨(some 19), .pick (.t 6) (.c (.bool true)) (.t 18), none, []⟩,
    ⟨(some 2), .mov (.t 19), none, []⟩] [2])
  .ret))
def f30 : VFn := ⟨1, 20, f30_c, [.t 2], true, []⟩
/- caliper/nat.both -/
def f31_c : VCode :=
  (.seq (.reg false [⟨(some 4), .mov (.c (.int .i64 0)), none, []⟩] [0, 1])
  (.seq (.seq (.reg false [⟨(some 5), .mov (.t 0), none, []⟩,
    ⟨(some 6), .call (.c (.func (.func 30) [] [])) [(.t 5)], none, []⟩,
    ⟨(some 7), .un .not (.t 6), none, []⟩,
    ⟨(some 8), .mov (.t 7), none, []⟩,
    ⟨(some 9), .mov (.t 1), (some (8, false)), []⟩,
    ⟨(some 10), .call (.c (.func (.func 30) [] [])) [(.t 9)], (some (8, false)), []⟩,
    ⟨(some 11), .un .not (.t 10), (some (8, false)), []⟩,
    ⟨(some 12), .pick (.t 8) (.c (.bool true)) (.t 11), none, []⟩] [12])
  (.cond (.t 12) (.seq (.reg false [⟨(some 4), .mov (.c (.int .i64 2)), none, []⟩] [4])
  .ret) .skip))
  (.seq (.reg false [⟨(some 4), .mov (.c (.int .i64 0)), none, []⟩] [4])
  .ret)))
def f31 : VFn := ⟨2, 13, f31_c, [.t 4], true, []⟩
/- caliper/nat.divided -/
def f32_l0 : VCode :=
  (.seq (.seq (.reg false [⟨(some 59), .mov (.t 11), none, []⟩,
    ⟨(some 60), .bin .geq (.t 59) (.c (.int .i64 0)), none, []⟩] [6, 7, 8, 9, 10, 11, 60])
  (.cond (.t 60) .skip (.exit 0)))
  (.seq (.block 1 (.reg false [⟨(some 63), .mov (.t 10), none, []⟩,
    ⟨(some 64), .mov (.t 11), none, []⟩,
    ⟨(some 65), .mov (.t 7), none, []⟩,
    ⟨(some 66), .mov (.t 8), none, []⟩,
    ⟨(some 67), .mov (.t 11), none, []⟩,
    ⟨(some 68), .call (.c (.func (.func 51) [] [])) [(.t 65), (.t 66), (.t 67)], none, []⟩,
    ⟨(some 69), .iaddr 1 (.t 63) (.t 64), none, []⟩,
    ⟨none, .store false 1 (.t 69) (.t 68), none, []⟩] [6, 7, 8, 9, 10, 11]))
  (.reg false [⟨(some 61), .mov (.t 11), none, []⟩,
    ⟨(some 62), .bin .sub (.t 61) (.c (.int .i64 1)), none, []⟩,
    ⟨(some 11), .mov (.t 62), none, []⟩] [6, 7, 8, 9, 10, 11])))
def f32_c : VCode :=
  (.seq (.reg false [⟨(some 4), .nilrow 1, none, []⟩,
    ⟨(some 5), .nilrow 1, none, []⟩] [0, 1])
  (.seq (.seq (.reg false [⟨(some 14), .mov (.t 0), none, []⟩,
    ⟨(some 15), .mov (.t 1), none, []⟩,
    ⟨(some 16), .call (.c (.func (.func 36) [] [])) [(.t 14), (.t 15)], none, []⟩,
    ⟨(some 17), .bin .lss (.t 16) (.c (.int .i64 0)), none, []⟩] [0, 1, 17])
  (.cond (.t 17) (.seq (.reg false [⟨(some 18), .mov (.t 0), none, []⟩,
    ⟨(some 19), .call (.c (.func (.func 48) [] [])) [(.t 18)], none, []⟩,
    ⟨(some 4), .nilrow 1, none, []⟩,
    ⟨(some 5), .mov (.t 19), none, []⟩] [4, 5])
  .ret) .skip))
  (.seq (.seq (.reg false [⟨(some 20), .mov (.t 1), none, []⟩,
    ⟨(some 21), .len (.t 20), none, []⟩,
    ⟨(some 22), .bin .eql (.t 21) (.c (.int .i64 1)), none, []⟩] [0, 1, 22])
  (.cond (.t 22) (.seq (.reg false [⟨(some 23), .mov (.t 0), none, []⟩,
    ⟨(some 24), .mov (.t 1), none, []⟩,
    ⟨(some 25), .iaddr 1 (.t 24) (.c (.int .i64 0)), none, []⟩,
    ⟨(some 26), .load none (.t 25), none, []⟩,
    ⟨(some 27), .call (.c (.func (.func 49) [] [])) [(.t 23), (.t 26)], none, []⟩,
    ⟨(some 28), .extract (.t 27) 0, none, []⟩,
    ⟨(some 29), .extract (.t 27) 1, none, []⟩,
    ⟨(some 4), .mov (.t 28), none, []⟩,
    ⟨(some 5), .mov (.t 29), none, []⟩] [4, 5])
  .ret) .skip))
  (.seq (.reg false [⟨(some 30), .mov (.t 1), none, []⟩,
    ⟨(some 31), .mov (.t 1), none, []⟩,
    ⟨(some 32), .len (.t 31), none, []⟩,
    ⟨(some 33), .bin .sub (.t 32) (.c (.int .i64 1)), none, []⟩,
    ⟨(some 34), .iaddr 1 (.t 30) (.t 33), none, []⟩,
    ⟨(some 35), .load none (.t 34), none, []⟩,
    ⟨(some 36), .bin .add (.t 35) (.c (.int .u32 1)), none, []⟩,
    ⟨(some 37), .bin .quo (.c (.int .u32 1000000000)) (.t 36), none, []⟩,
    ⟨(some 6), .mov (.t 37), none, []⟩] [0, 1, 6])
  (.seq (.reg false [⟨(some 38), .mov (.t 0), none, []⟩,
    ⟨(some 39), .mov (.t 6), none, []⟩,
    ⟨(some 40), .call (.c (.func (.func 50) [] [])) [(.t 38), (.t 39)], none, []⟩,
    ⟨(some 41), .buildRow false 1 1 [(.int .u32 0)] [(0, (.c (.int .u32 0)))], none, []⟩,
    ⟨(some 42), .append 1 4 (.t 40) (.t 41), none, []⟩,
    ⟨(some 43), .mov (.t 1), none, []⟩,
    ⟨(some 44), .mov (.t 6), none, []⟩,
    ⟨(some 45), .call (.c (.func (.func 50) [] [])) [(.t 43), (.t 44)], none, []⟩,
    ⟨(some 46), .call (.c (.func (.func 40) [] [])) [(.t 45)], none, []⟩,
    ⟨(some 7), .mov (.t 42), none, []⟩,
    ⟨(some 8), .mov (.t 46), none, []⟩] [6, 7, 8])
  (.seq (.reg false [⟨(some 47), .mov (.t 8), none, []⟩,
    ⟨(some 48), .len (.t 47), none, []⟩,
    ⟨(some 9), .mov (.t 48), none, []⟩] [6, 7, 8, 9])
  (.seq (.reg false [⟨(some 49), .mov (.t 7), none, []⟩,
    ⟨(some 50), .len (.t 49), none, []⟩,
    ⟨(some 51), .mov (.t 9), none, []⟩,
    ⟨(some 52), .bin .sub (.t 50) (.t 51), none, []⟩,
    ⟨(some 53), .mkslice false 1 4 [(.int .u32 0)] (.t 52) (.t 52), none, []⟩,
    ⟨(some 10), .mov (.t 53), none, []⟩] [6, 7, 8, 9, 10])
  (.seq (.seq (.reg false [⟨(some 54), .mov (.t 7), none, []⟩,
    ⟨(some 55), .len (.t 54), none, []⟩,
    ⟨(some 56), .mov (.t 9), none, []⟩,
    ⟨(some 57), .bin .sub (.t 55) (.t 56), none, []⟩,
    ⟨(some 58), .bin .sub (.t 57) (.c (.int .i64 1)), none, []⟩,
    ⟨(some 11), .mov (.t 58), none, []⟩] [6, 7, 8, 9, 10, 11])
  (.block 0 (.loop [6, 7, 8, 9, 10, 11] f32_l0)))
  (.seq (.reg false [⟨(some 71), .mov (.t 7), none, []⟩,
    ⟨(some 72), .mov (.t 9), none, []⟩,
    ⟨(some 73), .sl 1 (.t 71) none (some (.t 72)) none, none, []⟩,
    ⟨(some 74), .call (.c (.func (.func 40) [] [])) [(.t 73)], none, []⟩,
    ⟨(some 75), .mov (.t 6), none, []⟩,
    ⟨(some 76), .call (.c (.func (.func 49) [] [])) [(.t 74), (.t 75)], none, []⟩,
    ⟨(some 70), .mov (.t 76), none, []⟩,
    ⟨(some 77), .extract (.t 70) 0, none, []⟩,
    ⟨(some 78), .extract (.t 70) 1, none, []⟩,
    ⟨(some 12), .mov (.t 77), none, []⟩,
    ⟨(some 13), .mov (.t 78), none, []⟩] [10, 12])
  (.seq (.reg false [⟨(some 79), .mov (.t 10), none, []⟩,
    ⟨(some 80), .call (.c (.func (.func 40) [] [])) [(.t 79)], none, []⟩,
    ⟨(some 81), .mov (.t 12), none, []⟩,
    ⟨(some 4), .mov (.t 80), none, []⟩,
    ⟨(some 5), .mov (.t 81), none, []⟩] [4, 5])
  .ret))))))))))
def f32 : VFn := ⟨2, 82, f32_c, [.t 4, .t 5], true, []⟩
/- caliper/nat.times -/
def f33_l0 : VCode :=
  (.seq (.reg false [⟨(some 28), .bin .lss (.t 27) (.t 26), none, []⟩] [1, 5, 6, 7, 8, 18, 19, 20, 25, 26, 27, 28])
  (.seq (.cond (.t 28) .skip (.exit 2))
  (.seq (.block 3 (.seq (.reg false [⟨(some 29), .mov (.t 27), none, []⟩,
    ⟨(some 30), .iaddr 1 (.t 25) (.t 27), none, []⟩,
    ⟨(some 31), .load none (.t 30), none, []⟩,
    ⟨(some 9), .mov (.t 29), none, []⟩,
    ⟨(some 10), .mov (.t 31), none, []⟩] [1, 5, 6, 7, 8, 9, 10, 18, 19, 20, 25, 26, 27])
  (.seq (.reg false [⟨(some 32), .mov (.t 7), none, []⟩,
    ⟨(some 33), .conv (.toInt .u64) (.t 32), none, []⟩,
    ⟨(some 34), .mov (.t 10), none, []⟩,
    ⟨(some 35), .conv (.toInt .u64) (.t 34), none, []⟩,
    ⟨(some 36), .bin .mul (.t 33) (.t 35), none, []⟩,
    ⟨(some 37), .mov (.t 5), none, []⟩,
    ⟨(some 38), .mov (.t 6), none, []⟩,
    ⟨(some 39), .mov (.t 9), none, []⟩,
    ⟨(some 40), .bin .add (.t 38) (.t 39), none, []⟩,
    ⟨(some 41), .iaddr 1 (.t 37) (.t 40), none, []⟩,
    ⟨(some 42), .load none (.t 41), none, []⟩,
    ⟨(some 43), .conv (.toInt .u64) (.t 42), none, []⟩,
    ⟨(some 44), .bin .add (.t 36) (.t 43), none, []⟩,
    ⟨(some 45), .mov (.t 8), none, []⟩,
    ⟨(some 46), .bin .add (.t 44) (.t 45), none, []⟩,
    ⟨(some 11), .mov (.t 46), none, []⟩] [1, 5, 6, 7, 9, 11, 18, 19, 20, 25, 26, 27])
  (.reg false [⟨(some 47), .mov (.t 5), none, []⟩,
    ⟨(some 48), .mov (.t 6), none, []⟩,
    ⟨(some 49), .mov (.t 9), none, []⟩,
    ⟨(some 50), .bin .add (.t 48) (.t 49), none, []⟩,
    ⟨(some 51), .mov (.t 11), none, []⟩,
    ⟨(some 52), .bin .rem (.t 51) (.c (.int .u64 1000000000)), none, []⟩,
    ⟨(some 53), .conv (.toInt .u32) (.t 52), none, []⟩,
    ⟨(some 54), .mov (.t 11), none, []⟩,
    ⟨(some 55), .bin .quo (.t 54) (.c (.int .u64 1000000000)), none, []⟩,
    ⟨(some 56), .iaddr 1 (.t 47) (.t 50), none, []⟩,
    ⟨none, .store false 1 (.t 56) (.t 53), none, []⟩,
    ⟨(some 8), .mov (.t 55), none, []⟩] [1, 5, 6, 7, 8, 18, 19, 20, 25, 26, 27]))))
  (.reg false [⟨(some 57), .bin .add (.t 27) (.c (.int .i64 1)), none, []⟩,
    ⟨(some 27), .mov (.t 57), none, []⟩] [1, 5, 6, 7, 8, 18, 19, 20, 25, 26, 27]))))
def f33_l1 : VCode :=
  (.seq (.reg false [⟨(some 21), .bin .lss (.t 20) (.t 19), none, []⟩] [1, 5, 18, 19, 20, 21])
  (.seq (.cond (.t 21) .skip (.exit 0))
  (.seq (.block 1 (.seq (.reg false [⟨(some 22), .mov (.t 20), none, []⟩,
    ⟨(some 23), .iaddr 1 (.t 18) (.t 20), none, []⟩,
    ⟨(some 24), .load none (.t 23), none, []⟩,
    ⟨(some 6), .mov (.t 22), none, []⟩,
    ⟨(some 7), .mov (.t 24), none, []⟩] [1, 5, 6, 7, 18, 19, 20])
  (.seq (.reg false [⟨(some 8), .mov (.c (.int .u64 0)), none, []⟩] [1, 5, 6, 7, 8, 18, 19, 20])
  (.seq (.seq (.reg false [⟨(some 25), .mov (.t 1), none, []⟩,
    ⟨(some 26), .len (.t 25), none, []⟩,
    ⟨(some 27), .mov (.c (.int .i64 0)), none, []⟩] [1, 5, 6, 7, 8, 18, 19, 20, 25, 26, 27])
  (.block 2 (.loop [1, 5, 6, 7, 8, 18, 19, 20, 25, 26, 27] f33_l0)))
  (.seq (.reg false [⟨(some 58), .mov (.t 1), none, []⟩,
    ⟨(some 59), .len (.t 58), none, []⟩,
    ⟨(some 60), .bin .gtr (.t 59) (.c (.int .i64 0)), none, []⟩] [1, 5, 6, 8, 18, 19, 20, 60])
  (.cond (.t 60) (.reg false [⟨(some 61), .mov (.t 5), none, []⟩,
    ⟨(some 62), .mov (.t 6), none, []⟩,
    ⟨(some 63), .mov (.t 1), none, []⟩,
    ⟨(some 64), .len (.t 63), none, []⟩,
    ⟨(some 65), .bin .add (.t 62) (.t 64), none, []⟩,
    ⟨(some 66), .mov (.t 8), none, []⟩,
    ⟨(some 67), .conv (.toInt .u32) (.t 66), none, []⟩,
    ⟨(some 68), .iaddr 1 (.t 61) (.t 65), none, []⟩,
    ⟨none, .store false 1 (.t 68) (.t 67), none, []⟩] [1, 5, 18, 19, 20]) .skip))))))
  (.reg false [⟨(some 69), .bin .add (.t 20) (.c (.int .i64 1)), none, []⟩,
    ⟨(some 20), .mov (.t 69), none, []⟩] [1, 5, 18, 19, 20]))))
def f33_c : VCode :=
  (.seq (.reg false [⟨(some 4), .nilrow 1, none, []⟩] [0, 1])
  (.seq (.reg false [⟨(some 12), .mov (.t 0), none, []⟩,
    ⟨(some 13), .len (.t 12), none, []⟩,
    ⟨(some 14), .mov (.t 1), none, []⟩,
    ⟨(some 15), .len (.t 14), none, []⟩,
    ⟨(some 16), .bin .add (.t 13) (.t 15), none, []⟩,
    ⟨(some 17), .mkslice false 1 4 [(.int .u32 0)] (.t 16) (.t 16), none, []⟩,
    ⟨(some 5), .mov (.t 17), none, []⟩] [0, 1, 5])
  (.seq (.seq (.reg false [⟨(some 18), .mov (.t 0), none, []⟩,
    ⟨(some 19), .len (.t 18), none, []⟩,
    ⟨(some 20), .mov (.c (.int .i64 0)), none, []⟩] [1, 5, 18, 19, 20])
  (.block 0 (.loop [1, 5, 18, 19, 20] f33_l1)))
  (.seq (.reg false [⟨(some 70), .mov (.t 5), none, []⟩,
    ⟨(some 71), .call (.c (.func (.func 40) [] [])) [(.t 70)], none, []⟩,
    ⟨(some 4), .mov (.t 71), none, []⟩] [4])
  .ret))))
def f33 : VFn := ⟨2, 72, f33_c, [.t 4], true, []⟩
/- caliper/nat.zip -/
def f34_l0 : VCode :=
  (.seq (.reg false [⟨(some 21), .bin .lss (.t 20) (.t 19), none, []⟩] [0, 1, 2, 8, 9, 19, 20, 21])
  (.seq (.cond (.t 21) .skip (.exit 0))
  (.seq (.block 1 (.seq (.reg false [⟨(some 22), .mov (.t 20), none, []⟩,
    ⟨(some 10), .mov (.t 22), none, []⟩] [0, 1, 2, 8, 9, 10, 19, 20])
  (.reg false [⟨(some 24), .mov (.t 8), none, []⟩,
    ⟨(some 25), .mov (.t 10), none, []⟩,
    ⟨(some 26), .mov (.t 2), none, []⟩,
    ⟨(some 27), .mov (.t 0), none, []⟩,
    ⟨(some 28), .mov (.t 10), none, []⟩,
    ⟨(some 29), .call (.c (.func (.func 52) [] [])) [(.t 27), (.t 28)], none, []⟩,
    ⟨(some 30), .mov (.t 1), none, []⟩,
    ⟨(some 31), .mov (.t 10), none, []⟩,
    ⟨(some 32), .call (.c (.func (.func 52) [] [])) [(.t 30), (.t 31)], none, []⟩,
    ⟨(some 33), .mov (.t 9), none, []⟩,
    ⟨(some 34), .call (.t 26) [(.t 29), (.t 32), (.t 33)], none, []⟩,
    ⟨(some 23), .mov (.t 34), none, []⟩,
    ⟨(some 35), .extract (.t 23) 0, none, []⟩,
    ⟨(some 36), .extract (.t 23) 1, none, []⟩,
    ⟨(some 37), .iaddr 1 (.t 24) (.t 25), none, []⟩,
    ⟨none, .store false 1 (.t 37) (.t 35), none, []⟩,
    ⟨(some 9), .mov (.t 36), none, []⟩] [0, 1, 2, 8, 9, 19, 20])))
  (.reg false [⟨(some 38), .bin .add (.t 20) (.c (.int .i64 1)), none, []⟩,
    ⟨(some 20), .mov (.t 38), none, []⟩] [0, 1, 2, 8, 9, 19, 20]))))
def f34_c : VCode :=
  (.seq (.reg false [⟨(some 6), .nilrow 1, none, []⟩] [0, 1, 2])
  (.seq (.reg false [⟨(some 11), .mov (.t 0), none, []⟩,
    ⟨(some 12), .len (.t 11), none, []⟩,
    ⟨(some 13), .mov (.t 1), none, []⟩,
    ⟨(some 14), .len (.t 13), none, []⟩,
    ⟨(some 15), .max [(.t 12), (.t 14)], none, []⟩,
    ⟨(some 16), .bin .add (.t 15) (.c (.int .i64 1)), none, []⟩,
    ⟨(some 7), .mov (.t 16), none, []⟩] [0, 1, 2, 7])
  (.seq (.reg false [⟨(some 17), .mov (.t 7), none, []⟩,
    ⟨(some 18), .mkslice false 1 4 [(.int .u32 0)] (.t 17) (.t 17), none, []⟩,
    ⟨(some 8), .mov (.t 18), none, []⟩] [0, 1, 2, 7, 8])
  (.seq (.reg false [⟨(some 9), .mov (.c (.int .u32 0)), none, []⟩] [0, 1, 2, 7, 8, 9])
  (.seq (.seq (.reg false [⟨(some 19), .mov (.t 7), none, []⟩,
    ⟨(some 20), .mov (.c (.int .i64 0)), none, []⟩] [0, 1, 2, 8, 9, 19, 20])
  (.block 0 (.loop [0, 1, 2, 8, 9, 19, 20] f34_l0)))
  (.seq (.reg false [⟨(some 39), .mov (.t 8), none, []⟩,
    ⟨(some 40), .call (.c (.func (.func 40) [] [])) [(.t 39)], none, []⟩,
    ⟨(some 6), .mov (.t 40), none, []⟩] [6])
  .ret))))))
def f34 : VFn := ⟨3, 41, f34_c, [.t 6], true, []⟩
/- caliper/nat.Add$1 -/
def f35_c : VCode :=
  (.seq (.reg false [⟨(some 6), .mov (.c (.int .u32 0)), none, []⟩,
    ⟨(some 7), .mov (.c (.int .u32 0)), none, []⟩] [0, 1, 2])
  (.seq (.reg false [⟨(some 9), .mov (.t 0), none, []⟩,
    ⟨(some 10), .mov (.t 1), none, []⟩,
    ⟨(some 11), .bin .add (.t 9) (.t 10), none, []⟩,
    ⟨(some 12), .mov (.t 2), none, []⟩,
    ⟨(some 13), .bin .add (.t 11) (.t 12), none, []⟩,
    ⟨(some 8), .mov (.t 13), none, []⟩] [8])
  (.seq (.seq (.reg false [⟨(some 14), .mov (.t 8), none, []⟩,
    ⟨(some 15), .bin .geq (.t 14) (.c (.int .u32 1000000000)), none, []⟩] [8, 15])
  (.cond (.t 15) (.seq (.reg false [⟨(some 16), .mov (.t 8), none, []⟩,
    ⟨(some 17), .bin .sub (.t 16) (.c (.int .u32 1000000000)), none, []⟩,
    ⟨(some 6), .mov (.t 17), none, []⟩,
    ⟨(some 7), .mov (.c (.int .u32 1)), none, []⟩] [6, 7])
  .ret) .skip))
  (.seq (.reg false [⟨(some 18), .mov (.t 8), none, []⟩,
    ⟨(some 6), .mov (.t 18), none, []⟩,
    ⟨(some 7), .mov (.c (.int .u32 0)), none, []⟩] [6, 7])
  .ret))))
def f35 : VFn := ⟨3, 19, f35_c, [.t 6, .t 7], true, []⟩
/- caliper/nat.compare -/
def f36_l0 : VCode :=
  (.seq (.seq (.reg false [⟨(some 19), .mov (.t 6), none, []⟩,
    ⟨(some 20), .bin .geq (.t 19) (.c (.int .i64 0)), none, []⟩] [0, 1, 6, 20])
  (.cond (.t 20) .skip (.exit 0)))
  (.seq (.block 1 (.seq (.reg true [⟨(some 23), .mov (.t 0), none, []⟩,
    ⟨(some 24), .mov (.t 6), none, []⟩,
    ⟨(some 25), .iaddr 1 (.t 23) (.t 24), none, []⟩,
    ⟨(some 26), .load none (.t 25), none, []⟩,
    ⟨(some 27), .mov (.t 1), none, []⟩,
    ⟨(some 28), .mov (.t 6), none, []⟩,
    ⟨(some 29), .iaddr 1 (.t 27) (.t 28), none, []⟩,
    ⟨(some 30), .load none (.t 29), none, []⟩,
    ⟨(some 31), .call (.c (.func (.func 54) [] [])) [(.t 26), (.t 30)], none, []⟩,
    ⟨(some 7), .mov (.t 31), none, []⟩] [0, 1, 6, 7])
  (.seq (.reg false [⟨(some 32), .mov (.t 7), none, []⟩,
    ⟨(some 33), .bin .neq (.t 32) (.c (.int .i64 0)), none, []⟩] [0, 1, 6, 7, 33])
  (.cond (.t 33) (.seq (.reg false [⟨(some 34), .mov (.t 7), none, []⟩,
    ⟨(some 4), .mov (.t 34), none, []⟩] [4])
  .ret) .skip))))
  (.reg false [⟨(some 21), .mov (.t 6), none, []⟩,
    ⟨(some 22), .bin .sub (.t 21) (.c (.int .i64 1)), none, []⟩,
    ⟨(some 6), .mov (.t 22), none, []⟩] [0, 1, 6])))
def f36_c : VCode :=
  (.seq (.reg false [⟨(some 4), .mov (.c (.int .i64 0)), none, []⟩] [0, 1])
  (.seq (.seq (.reg false [⟨(some 8), .mov (.t 0), none, []⟩,
    ⟨(some 9), .len (.t 8), none, []⟩,
    ⟨(some 10), .mov (.t 1), none, []⟩,
    ⟨(some 11), .len (.t 10), none, []⟩,
    ⟨(some 12), .call (.c (.func (.func 53) [] [])) [(.t 9), (.t 11)], none, []⟩,
    ⟨(some 5), .mov (.t 12), none, []⟩] [0, 1, 5])
  (.seq (.reg false [⟨(some 13), .mov (.t 5), none, []⟩,
    ⟨(some 14), .bin .neq (.t 13) (.c (.int .i64 0)), none, []⟩] [0, 1, 5, 14])
  (.cond (.t 14) (.seq (.reg false [⟨(some 15), .mov (.t 5), none, []⟩,
    ⟨(some 4), .mov (.t 15), none, []⟩] [4])
  .ret) .skip)))
  (.seq (.seq (.reg false [⟨(some 16), .mov (.t 0), none, []⟩,
    ⟨(some 17), .len (.t 16), none, []⟩,
    ⟨(some 18), .bin .sub (.t 17) (.c (.int .i64 1)), none, []⟩,
    ⟨(some 6), .mov (.t 18), none, []⟩] [0, 1, 6])
  (.block 0 (.loop [0, 1, 6] f36_l0)))
  (.seq (.reg false [⟨(some 4), .mov (.c (.int .i64 0)), none, []⟩] [4])
  .ret))))
def f36 : VFn := ⟨2, 35, f36_c, [.t 4], true, []⟩
/- caliper/nat.less -/
def f37_c : VCode :=
  (.seq (.reg false [⟨(some 4), .nilrow 1, none, []⟩] [0, 1])
  (.seq (.reg false [⟨(some 5), .mov (.t 0), none, []⟩,
    ⟨(some 6), .mov (.t 1), none, []⟩,
    ⟨(some 7), .call (.c (.func (.func 34) [] [])) [(.t 5), (.t 6), (.c (.func (.func 55) [] []))], none, []⟩,
    ⟨(some 4), .mov (.t 7), none, []⟩] [4])
  .ret))
def f37 : VFn := ⟨2, 8, f37_c, [.t 4], true, []⟩
/- caliper/nat.Power$1 -/
def f38_c : VCode :=
  (.seq (.reg false [⟨(some 3), .nilrow 1, none, []⟩] [0, 1])
  (.seq (.reg false [⟨(some 7), .mov (.t 0), none, []⟩,
    ⟨(some 8), .load none (.t 1), none, []⟩,
    ⟨(some 9), .call (.c (.func (.func 32) [] [])) [(.t 7), (.t 8)], none, []⟩,
    ⟨(some 6), .mov (.t 9), none, []⟩,
    ⟨(some 10), .extract (.t 6) 0, none, []⟩,
    ⟨(some 11), .extract (.t 6) 1, none, []⟩,
    ⟨(some 4), .mov (.t 10), none, []⟩,
    ⟨(some 5), .mov (.t 11), none, []⟩] [5])
  (.seq (.reg false [⟨(some 12), .mov (.t 5), none, []⟩,
    ⟨(some 3), .mov (.t 12), none, []⟩] [3])
  .ret)))
def f38 : VFn := ⟨2, 13, f38_c, [.t 3], true, []⟩
/- strings.Trim -/
def f39_c : VCode :=
  (.seq (.reg false [⟨(some 4), .mov (.c (.str ⟨#[]⟩)), none, []⟩] [0, 1])
  (.seq (.seq (.reg false [⟨(some 7), .mov (.t 0), none, []⟩,
    ⟨(some 8), .bin .eql (.t 7) (.c (.str ⟨#[]⟩)), none, []⟩,
    ⟨(some 9), .mov (.t 8), none, []⟩,
    ⟨(some 10), .mov (.t 1), (some (9, false)), []⟩,
    ⟨(some 11), .bin .eql (.t 10) (.c (.str ⟨#[]⟩)), (some (9, false)), []⟩,
    ⟨(some 12), .pick (.t 9) (.c (.bool true)) (.t 11), none, []⟩] [0, 1, 12])
  (.cond (.t 12) (.seq (.reg false [⟨(some 13), .mov (.t 0), none, []⟩,
    ⟨(some 4), .mov (.t 13), none, []⟩] [4])
  .ret) .skip))
  (.seq (.seq (.reg false [⟨(some 14), .mov (.t 1), none, []⟩,
    ⟨(some 15), .lens (.t 14), none, []⟩,
    ⟨(some 16), .bin .eql (.t 15) (.c (.int .i64 1)), none, []⟩,
    ⟨(some 17), .mov (.t 16), none, []⟩,
    ⟨(some 18), .mov (.t 1), (some (17, true)), []⟩,
    ⟨(some 19), .idxs (.t 18) (.c (.int .i64 0)), (some (17, true)), []⟩,
    ⟨(some 20), .bin .lss (.t 19) (.c (.int .u8 128)), (some (17, true)), []⟩,
    ⟨(some 21), .pick (.t 17) (.t 20) (.c (.bool false)), none, []⟩] [0, 1, 21])
  (.cond (.t 21) (.seq (.reg true [⟨(some 22), .mov (.t 0), none, []⟩,
    ⟨(some 23), .mov (.t 1), none, []⟩,
    ⟨(some 24), .idxs (.t 23) (.c (.int .i64 0)), none, []⟩,
    ⟨(some 25), .call (.c (.func (.func 57) [] [])) [(.t 22), (.t 24)], none, []⟩,
    ⟨(some 26), .mov (.t 1), none, []⟩,
    ⟨(some 27), .idxs (.t 26) (.c (.int .i64 0)), none, []⟩,
    ⟨(some 28), .call (.c (.func (.func 56) [] [])) [(.t 25), (.t 27)], none, []⟩,
    ⟨(some 4), .mov (.t 28), none, []⟩] [4])
  .ret) .skip))
  (.seq (.seq (.reg false [⟨(some 30), .mov (.t 1), none, []⟩,
    ⟨(some 31), .call (.c (.func (.func 58) [] [])) [(.t 30)], none, []⟩,
    ⟨(some 29), .mov (.t 31), none, []⟩,
    ⟨(some 32), .extract (.t 29) 0, none, []⟩,
    ⟨(some 33), .extract (.t 29) 1, none, []⟩,
    ⟨(some 5), .alloc true [(.bool false), (.bool false), (.bool false), (.bool false), (.bool false), (.bool false), (.bool false), (.bool false), (.bool false), (.bool false), (.bool false), (.bool false), (.bool false), (.bool false), (.bool false), (.bool false), (.bool false), (.bool false), (.bool false), (.bool false), (.bool false), (.bool false), (.bool false), (.bool false), (.bool false), (.bool false), (.bool false), (.bool false), (.bool false), (.bool false), (.bool false), (.bool false), (.bool false), (.bool false), (.bool false), (.bool false), (.bool false), (.bool false), (.bool false), (.bool false), (.bool false), (.bool false), (.bool false), (.bool false), (.bool false), (.bool false), (.bool false), (.bool false), (.bool false), (.bool false), (.bool false), (.bool false), (.bool false), (.bool false), (.bool false), (.bool false), (.bool false), (.bool false), (.bool false), (.bool false), (.bool false), (.bool false), (.bool false), (.bool false), (.bool false), (.bool false), (.bool false), (.bool false), (.bool false), (.bool false), (.bool false), (.bool false), (.bool false), (.bool false), (.bool false), (.bool false), (.bool false), (.bool false), (.bool false), (.bool false), (.bool false), (.bool false), (.bool false), (.bool false), (.bool false), (.bool false), (.bool false), (.bool false), (.bool false), (.bool false), (.bool false), (.bool false), (.bool false), (.bool false), (.bool false), (.bool false), (.bool false), (.bool false), (.bool false), (.bool false), (.bool false), (.bool false), (.bool false), (.bool false), (.bool false), (.bool false), (.bool false), (.bool false), (.bool false), (.bool false), (.bool false), (.bool false), (.bool false), (.bool false), (.bool false), (.bool false), (.bool false), (.bool false), (.bool false), (.bool false), (.bool false), (.bool false), (.bool false), (.bool false), (.bool false), (.bool false), (.bool false), (.bool false), (.bool false), (.bool false), (.bool false), (.bool false), (.bool false), (.bool false), (.bool false), (.bool false), (.bool false), (.bool false), (.bool false), (.bool false), (.bool false), (.bool false), (.bool false), (.bool false), (.bool false), (.bool false), (.bool false), (.bool false), (.bool false), (.bool false), (.bool false), (.bool false), (.bool false), (.bool false), (.bool false), (.bool false), (.bool false), (.bool false), (.bool false), (.bool false), (.bool false), (.bool false), (.bool false), (.bool false), (.bool false), (.bool false), (.bool false), (.bool false), (.bool false), (.bool false), (.bool false), (.bool false), (.bool false), (.bool false), (.bool false), (.bool false), (.bool false), (.bool false), (.bool false), (.bool false), (.bool false), (.bool false), (.bool false), (.bool false), (.bool false), (.bool false), (.bool false), (.bool false), (.bool false), (.bool false), (.bool false), (.bool false), (.bool false), (.bool false), (.bool false), (.bool false), (.bool false), (.bool false), (.bool false), (.bool false), (.bool false), (.bool false), (.bool false), (.bool false), (.bool false), (.bool false), (.bool false), (.bool false), (.bool false), (.bool false), (.bool false), (.bool false), (.bool false), (.bool false), (.bool false), (.bool false), (.bool false), (.bool false), (.bool false), (.bool false), (.bool false), (.bool false), (.bool false), (.bool false), (.bool false), (.bool false), (.bool false), (.bool false), (.bool false), (.bool false), (.bool false), (.bool false), (.bool false), (.bool false), (.bool false), (.bool false), (.bool false), (.bool false), (.bool false), (.bool false), (.bool false), (.bool false), (.bool false), (.bool false), (.bool false), (.bool false), (.bool false), (.bool false), (.bool false), (.bool false), (.bool false), (.bool false), (.bool false), (.bool false), (.bool false), (.bool false)], none, []⟩,
    ⟨none, .store true 256 (.t 5) (.t 32), none, []⟩,
    ⟨(some 6), .mov (.t 33), none, []⟩] [0, 1, 5, 6])
  (.seq (.reg false [⟨(some 34), .mov (.t 6), none, []⟩] [0, 1, 5, 34])
  (.cond (.t 34) (.seq (.reg false [⟨(some 35), .mov (.t 0), none, []⟩,
    ⟨(some 36), .call (.c (.func (.func 60) [] [])) [(.t 35), (.t 5)], none, []⟩,
    ⟨(some 37), .call (.c (.func (.func 59) [] [])) [(.t 36), (.t 5)], none, []⟩,
    ⟨(some 4), .mov (.t 37), none, []⟩] [4])
  .ret) .skip)))
  (.seq (.reg false [⟨(some 38), .mov (.t 0), none, []⟩,
    ⟨(some 39), .mov (.t 1), none, []⟩,
    ⟨(some 40), .call (.c (.func (.func 62) [] [])) [(.t 38), (.t 39)], none, []⟩,
    ⟨(some 41), .mov (.t 1), none, []⟩,
    ⟨(some 42), .call (.c (.func (.func 61) [] [])) [(.t 40), (.t 41)], none, []⟩,
    ⟨(some 4), .mov (.t 42), none, []⟩] [4])
  .ret)))))
def f39 : VFn := ⟨2, 43, f39_c, [.t 4], true, []⟩
/- caliper/nat.trim -/
def f40_l0 : VCode :=
  (.seq (.seq (.reg false [⟨(some 6), .mov (.t 3), none, []⟩,
    ⟨(some 7), .bin .gtr (.t 6) (.c (.int .i64 0)), none, []⟩,
    ⟨(some 8), .mov (.t 7), none, []⟩,
    ⟨(some 9), .mov (.t 0), (some (8, true)), []⟩,
    ⟨(some 10), .mov (.t 3), (some (8, true)), []⟩,
    ⟨(some 11), .bin .sub (.t 10) (.c (.int .i64 1)), (some (8, true)), []⟩,
    ⟨(some 12), .iaddr 1 (.t 9) (.t 11), (some (8, true)), []⟩,
    ⟨(some 13), .load none (.t 12), (some (8, true)), []⟩,
    ⟨(some 14), .bin .eql (.t 13) (.c (.int .u32 0)), (some (8, true)), []⟩,
    ⟨(some 15), .pick (.t 8) (.t 14) (.c (.bool false)), none, []⟩] [0, 3, 15])
  (.cond (.t 15) .skip (.exit 0)))
  (.block 1 (.reg false [⟨(some 16), .mov (.t 3), none, []⟩,
    ⟨(some 17), .bin .sub (.t 16) (.c (.int .i64 1)), none, []⟩,
    ⟨(some 3), .mov (.t 17), none, []⟩] [0, 3])))
def f40_c : VCode :=
  (.seq (.reg false [⟨(some 2), .nilrow 1, none, []⟩] [0])
  (.seq (.reg false [⟨(some 4), .mov (.t 0), none, []⟩,
    ⟨(some 5), .len (.t 4), none, []⟩,
    ⟨(some 3), .mov (.t 5), none, []⟩] [0, 3])
  (.seq (.block 0 (.loop [0, 3] f40_l0))
  (.seq (.reg false [⟨(some 18), .mov (.t 0), none, []⟩,
    ⟨(some 19), .mov (.t 3), none, []⟩,
    ⟨(some 20), .mov (.t 3), none, []⟩,
    ⟨(some 21), .sl 1 (.t 18) none (some (.t 19)) (some (.t 20)), none, []⟩,
    ⟨(some 2), .mov (.t 21), none, []⟩] [2])
  .ret))))
def f40 : VFn := ⟨1, 22, f40_c, [.t 2], true, []⟩
/- caliper/caliperref02.Trim -/
def f41_l0 : VCode :=
  (.seq (.seq (.reg false [⟨(some 6), .mov (.t 3), none, []⟩,
    ⟨(some 7), .bin .gtr (.t 6) (.c (.int .i64 0)), none, []⟩,
    ⟨(some 8), .mov (.t 7), none, []⟩,
    ⟨(some 9), .mov (.t 0), (some (8, true)), []⟩,
    ⟨(some 10), .mov (.t 3), (some (8, true)), []⟩,
    ⟨(some 11), .bin .sub (.t 10) (.c (.int .i64 1)), (some (8, true)), []⟩,
    ⟨(some 12), .iaddr 1 (.t 9) (.t 11), (some (8, true)), []⟩,
    ⟨(some 13), .load none (.t 12), (some (8, true)), []⟩,
    ⟨(some 14), .bin .eql (.t 13) (.c (.int .u32 0)), (some (8, true)), []⟩,
    ⟨(some 15), .pick (.t 8) (.t 14) (.c (.bool false)), none, []⟩] [0, 3, 15])
  (.cond (.t 15) .skip (.exit 0)))
  (.block 1 (.reg false [⟨(some 16), .mov (.t 3), none, []⟩,
    ⟨(some 17), .bin .sub (.t 16) (.c (.int .i64 1)), none, []⟩,
    ⟨(some 3), .mov (.t 17), none, []⟩] [0, 3])))
def f41_c : VCode :=
  (.seq (.reg false [⟨(some 2), .nilrow 1, none, []⟩] [0])
  (.seq (.reg false [⟨(some 4), .mov (.t 0), none, []⟩,
    ⟨(some 5), .len (.t 4), none, []⟩,
    ⟨(some 3), .mov (.t 5), none, []⟩] [0, 3])
  (.seq (.block 0 (.loop [0, 3] f41_l0))
  (.seq (.reg false [⟨(some 18), .buildRow false 1 0 [(.int .u32 0)] [], none, []⟩,
    ⟨(some 19), .mov (.t 0), none, []⟩,
    ⟨(some 20), .mov (.t 3), none, []⟩,
    ⟨(some 21), .sl 1 (.t 19) none (some (.t 20)) none, none, []⟩,
    ⟨(some 22), .append 1 4 (.t 18) (.t 21), none, []⟩,
    ⟨(some 2), .mov (.t 22), none, []⟩] [2])
  .ret))))
def f41 : VFn := ⟨1, 23, f41_c, [.t 2], true, []⟩
/- strings.TrimLeft -/
def f42_c : VCode :=
  (.seq (.reg false [⟨(some 4), .mov (.c (.str ⟨#[]⟩)), none, []⟩] [0, 1])
  (.seq (.seq (.reg false [⟨(some 7), .mov (.t 0), none, []⟩,
    ⟨(some 8), .bin .eql (.t 7) (.c (.str ⟨#[]⟩)), none, []⟩,
    ⟨(some 9), .mov (.t 8), none, []⟩,
    ⟨(some 10), .mov (.t 1), (some (9, false)), []⟩,
    ⟨(some 11), .bin .eql (.t 10) (.c (.str ⟨#[]⟩)), (some (9, false)), []⟩,
    ⟨(some 12), .pick (.t 9) (.c (.bool true)) (.t 11), none, []⟩] [0, 1, 12])
  (.cond (.t 12) (.seq (.reg false [⟨(some 13), .mov (.t 0), none, []⟩,
    ⟨(some 4), .mov (.t 13), none, []⟩] [4])
  .ret) .skip))
  (.seq (.seq (.reg false [⟨(some 14), .mov (.t 1), none, []⟩,
    ⟨(some 15), .lens (.t 14), none, []⟩,
    ⟨(some 16), .bin .eql (.t 15) (.c (.int .i64 1)), none, []⟩,
    ⟨(some 17), .mov (.t 16), none, []⟩,
    ⟨(some 18), .mov (.t 1), (some (17, true)), []⟩,
    ⟨(some 19), .idxs (.t 18) (.c (.int .i64 0)), (some (17, true)), []⟩,
    ⟨(some 20), .bin .lss (.t 19) (.c (.int .u8 128)), (some (17, true)), []⟩,
    ⟨(some 21), .pick (.t 17) (.t 20) (.c (.bool false)), none, []⟩] [0, 1, 21])
  (.cond (.t 21) (.seq (.reg false [⟨(some 22), .mov (.t 0), none, []⟩,
    ⟨(some 23), .mov (.t 1), none, []⟩,
    ⟨(some 24), .idxs (.t 23) (.c (.int .i64 0)), none, []⟩,
    ⟨(some 25), .call (.c (.func (.func 56) [] [])) [(.t 22), (.t 24)], none, []⟩,
    ⟨(some 4), .mov (.t 25), none, []⟩] [4])
  .ret) .skip))
  (.seq (.seq (.reg false [⟨(some 27), .mov (.t 1), none, []⟩,
    ⟨(some 28), .call (.c (.func (.func 58) [] [])) [(.t 27)], none, []⟩,
    ⟨(some 26), .mov (.t 28), none, []⟩,
    ⟨(some 29), .extract (.t 26) 0, none, []⟩,
    ⟨(some 30), .extract (.t 26) 1, none, []⟩,
    ⟨(some 5), .alloc true [(.bool false), (.bool false), (.bool false), (.bool false), (.bool false), (.bool false), (.bool false), (.bool false), (.bool false), (.bool false), (.bool false), (.bool false), (.bool false), (.bool false), (.bool false), (.bool false), (.bool false), (.bool false), (.bool false), (.bool false), (.bool false), (.bool false), (.bool false), (.bool false), (.bool false), (.bool false), (.bool false), (.bool false), (.bool false), (.bool false), (.bool false), (.bool false), (.bool false), (.bool false), (.bool false), (.bool false), (.bool false), (.bool false), (.bool false), (.bool false), (.bool false), (.bool false), (.bool false), (.bool false), (.bool false), (.bool false), (.bool false), (.bool false), (.bool false), (.bool false), (.bool false), (.bool false), (.bool false), (.bool false), (.bool false), (.bool false), (.bool false), (.bool false), (.bool false), (.bool false), (.bool false), (.bool false), (.bool false), (.bool false), (.bool false), (.bool false), (.bool false), (.bool false), (.bool false), (.bool false), (.bool false), (.bool false), (.bool false), (.bool false), (.bool false), (.bool false), (.bool false), (.bool false), (.bool false), (.bool false), (.bool false), (.bool false), (.bool false), (.bool false), (.bool false), (.bool false), (.bool false), (.bool false), (.bool false), (.bool false), (.bool false), (.bool false), (.bool false), (.bool false), (.bool false), (.bool false), (.bool false), (.bool false), (.bool false), (.bool false), (.bool false), (.bool false), (.bool false), (.bool false), (.bool false), (.bool false), (.bool false), (.bool false), (.bool false), (.bool false), (.bool false), (.bool false), (.bool false), (.bool false), (.bool false), (.bool false), (.bool false), (.bool false), (.bool false), (.bool false), (.bool false), (.bool false), (.bool false), (.bool false), (.bool false), (.bool false), (.bool false), (.bool false), (.bool false), (.bool false), (.bool false), (.bool false), (.bool false), (.bool false), (.bool false), (.bool false), (.bool false), (.bool false), (.bool false), (.bool false), (.bool false), (.bool false), (.bool false), (.bool false), (.bool false), (.bool false), (.bool false), (.bool false), (.bool false), (.bool false), (.bool false), (.bool false), (.bool false), (.bool false), (.bool false), (.bool false), (.bool false), (.bool false), (.bool false), (.bool false), (.bool false), (.bool false), (.bool false), (.bool false), (.bool false), (.bool false), (.bool false), (.bool false), (.bool false), (.bool false), (.bool false), (.bool false), (.bool false), (.bool false), (.bool false), (.bool false), (.bool false), (.bool false), (.bool false), (.bool false), (.bool false), (.bool false), (.bool false), (.bool false), (.bool false), (.bool false), (.bool false), (.bool false), (.bool false), (.bool false), (.bool false), (.bool false), (.bool false), (.bool false), (.bool false), (.bool false), (.bool false), (.bool false), (.bool false), (.bool false), (.bool false), (.bool false), (.bool false), (.bool false), (.bool false), (.bool false), (.bool false), (.bool false), (.bool false), (.bool false), (.bool false), (.bool false), (.bool false), (.bool false), (.bool false), (.bool false), (.bool false), (.bool false), (.bool false), (.bool false), (.bool false), (.bool false), (.bool false), (.bool false), (.bool false), (.bool false), (.bool false), (.bool false), (.bool false), (.bool false), (.bool false), (.bool false), (.bool false), (.bool false), (.bool false), (.bool false), (.bool false), (.bool false), (.bool false), (.bool false), (.bool false), (.bool false), (.bool false), (.bool false), (.bool false), (.bool false), (.bool false), (.bool false), (.bool false), (.bool false), (.bool false), (.bool false), (.bool false), (.bool false), (.bool false), (.bool false)], none, []⟩,
    ⟨none, .store true 256 (.t 5) (.t 29), none, []⟩,
    ⟨(some 6), .mov (.t 30), none, []⟩] [0, 1, 5, 6])
  (.seq (.reg false [⟨(some 31), .mov (.t 6), none, []⟩] [0, 1, 5, 31])
  (.cond (.t 31) (.seq (.reg false [⟨(some 32), .mov (.t 0), none, []⟩,
    ⟨(some 33), .call (.c (.func (.func 59) [] [])) [(.t 32), (.t 5)], none, []⟩,
    ⟨(some 4), .mov (.t 33), none, []⟩] [4])
  .ret) .skip)))
  (.seq (.reg false [⟨(some 34), .mov (.t 0), none, []⟩,
    ⟨(some 35), .mov (.t 1), none, []⟩,
    ⟨(some 36), .call (.c (.func (.func 61) [] [])) [(.t 34), (.t 35)], none, []⟩,
    ⟨(some 4), .mov (.t 36), none, []⟩] [4])
  .ret)))))
def f42 : VFn := ⟨2, 37, f42_c, [.t 4], true, []⟩
/- caliper/caliperref02.compare -/
def f43_l0 : VCode :=
  (.seq (.seq (.reg false [⟨(some 19), .mov (.t 5), none, []⟩,
    ⟨(some 20), .bin .geq (.t 19) (.c (.int .i64 0)), none, []⟩] [0, 1, 5, 20])
  (.cond (.t 20) .skip (.exit 0)))
  (.seq (.block 1 (.seq (.seq (.reg true [⟨(some 23), .mov (.t 0), none, []⟩,
    ⟨(some 24), .mov (.t 5), none, []⟩,
    ⟨(some 25), .iaddr 1 (.t 23) (.t 24), none, []⟩,
    ⟨(some 26), .load none (.t 25), none, []⟩,
    ⟨(some 27), .mov (.t 1), none, []⟩,
    ⟨(some 28), .mov (.t 5), none, []⟩,
    ⟨(some 29), .iaddr 1 (.t 27) (.t 28), none, []⟩,
    ⟨(some 30), .load none (.t 29), none, []⟩,
    ⟨(some 31), .bin .lss (.t 26) (.t 30), none, []⟩] [0, 1, 5, 31])
  (.cond (.t 31) (.seq (.reg false [⟨(some 4), .mov (.c (.int .i64 (-1))), none, []⟩] [4])
  .ret) .skip))
  (.seq (.reg true [⟨(some 32), .mov (.t 0), none, []⟩,
    ⟨(some 33), .mov (.t 5), none, []⟩,
    ⟨(some 34), .iaddr 1 (.t 32) (.t 33), none, []⟩,
    ⟨(some 35), .load none (.t 34), none, []⟩,
    ⟨(some 36), .mov (.t 1), none, []⟩,
    ⟨(some 37), .mov (.t 5), none, []⟩,
    ⟨(some 38), .iaddr 1 (.t 36) (.t 37), none, []⟩,
    ⟨(some 39), .load none (.t 38), none, []⟩,
    ⟨(some 40), .bin .gtr (.t 35) (.t 39), none, []⟩] [0, 1, 5, 40])
  (.cond (.t 40) (.seq (.reg false [⟨(some 4), .mov (.c (.int .i64 1)), none, []⟩] [4])
  .ret) .skip))))
  (.reg false [⟨(some 21), .mov (.t 5), none, []⟩,
    ⟨(some 22), .bin .sub (.t 21) (.c (.int .i64 1)), none, []⟩,
    ⟨(some 5), .mov (.t 22), none, []⟩] [0, 1, 5])))
def f43_c : VCode :=
  (.seq (.reg false [⟨(some 4), .mov (.c (.int .i64 0)), none, []⟩] [0, 1])
  (.seq (.seq (.reg false [⟨(some 6), .mov (.t 0), none, []⟩,
    ⟨(some 7), .len (.t 6), none, []⟩,
    ⟨(some 8), .mov (.t 1), none, []⟩,
    ⟨(some 9), .len (.t 8), none, []⟩,
    ⟨(some 10), .bin .neq (.t 7) (.t 9), none, []⟩] [0, 1, 10])
  (.cond (.t 10) (.seq (.seq (.reg false [⟨(some 11), .mov (.t 0), none, []⟩,
    ⟨(some 12), .len (.t 11), none, []⟩,
    ⟨(some 13), .mov (.t 1), none, []⟩,
    ⟨(some 14), .len (.t 13), none, []⟩,
    ⟨(some 15), .bin .lss (.t 12) (.t 14), none, []⟩] [15])
  (.cond (.t 15) (.seq (.reg false [⟨(some 4), .mov (.c (.int .i64 (-1))), none, []⟩] [4])
  .ret) .skip))
  (.seq (.reg false [⟨(some 4), .mov (.c (.int .i64 1)), none, []⟩] [4])
  .ret)) .skip))
  (.seq (.seq (.reg false [⟨(some 16), .mov (.t 0), none, []⟩,
    ⟨(some 17), .len (.t 16), none, []⟩,
    ⟨(some 18), .bin .sub (.t 17) (.c (.int .i64 1)), none, []⟩,
    ⟨(some 5), .mov (.t 18), none, []⟩] [0, 1, 5])
  (.block 0 (.loop [0, 1, 5] f43_l0)))
  (.seq (.reg false [⟨(some 4), .mov (.c (.int .i64 0)), none, []⟩] [4])
  .ret))))
def f43 : VFn := ⟨2, 41, f43_c, [.t 4], true, []⟩
/- caliper/caliperref02.sub -/
def f44_l0 : VCode :=
  (.seq (.seq (.reg false [⟨(some 9), .mov (.t 7), none, []⟩,
    ⟨(some 10), .mov (.t 0), none, []⟩,
    ⟨(some 11), .len (.t 10), none, []⟩,
    ⟨(some 12), .bin .lss (.t 9) (.t 11), none, []⟩] [0, 1, 5, 6, 7, 12])
  (.cond (.t 12) .skip (.exit 0)))
  (.seq (.block 1 (.seq (.reg false [⟨(some 15), .mov (.t 6), none, []⟩,
    ⟨(some 8), .mov (.t 15), none, []⟩] [0, 1, 5, 7, 8])
  (.seq (.seq (.reg false [⟨(some 16), .mov (.t 7), none, []⟩,
    ⟨(some 17), .mov (.t 1), none, []⟩,
    ⟨(some 18), .len (.t 17), none, []⟩,
    ⟨(some 19), .bin .lss (.t 16) (.t 18), none, []⟩] [0, 1, 5, 7, 8, 19])
  (.cond (.t 19) (.reg false [⟨(some 20), .mov (.t 8), none, []⟩,
    ⟨(some 21), .mov (.t 1), none, []⟩,
    ⟨(some 22), .mov (.t 7), none, []⟩,
    ⟨(some 23), .iaddr 1 (.t 21) (.t 22), none, []⟩,
    ⟨(some 24), .load none (.t 23), none, []⟩,
    ⟨(some 25), .bin .add (.t 20) (.t 24), none, []⟩,
    ⟨(some 8), .mov (.t 25), none, []⟩] [0, 1, 5, 7, 8]) .skip))
  (.seq (.reg false [⟨(some 26), .mov (.t 0), none, []⟩,
    ⟨(some 27), .mov (.t 7), none, []⟩,
    ⟨(some 28), .iaddr 1 (.t 26) (.t 27), none, []⟩,
    ⟨(some 29), .load none (.t 28), none, []⟩,
    ⟨(some 30), .mov (.t 8), none, []⟩,
    ⟨(some 31), .bin .geq (.t 29) (.t 30), none, []⟩] [0, 1, 5, 7, 8, 31])
  (.cond (.t 31) (.seq (.reg false [⟨(some 32), .mov (.t 5), none, []⟩,
    ⟨(some 33), .mov (.t 0), none, []⟩,
    ⟨(some 34), .mov (.t 7), none, []⟩,
    ⟨(some 35), .iaddr 1 (.t 33) (.t 34), none, []⟩,
    ⟨(some 36), .load none (.t 35), none, []⟩,
    ⟨(some 37), .mov (.t 8), none, []⟩,
    ⟨(some 38), .bin .sub (.t 36) (.t 37), none, []⟩,
    ⟨(some 39), .buildRow false 1 1 [(.int .u32 0)] [(0, (.t 38))], none, []⟩,
    ⟨(some 40), .append 1 4 (.t 32) (.t 39), none, []⟩,
    ⟨(some 5), .mov (.t 40), none, []⟩] [0, 1, 5, 7])
  (.reg false [⟨(some 6), .mov (.c (.int .u32 0)), none, []⟩] [0, 1, 5, 6, 7])) (.seq (.reg false [⟨(some 41), .mov (.t 5), none, []⟩,
    ⟨(some 42), .mov (.t 0), none, []⟩,
    ⟨(some 43), .mov (.t 7), none, []⟩,
    ⟨(some 44), .iaddr 1 (.t 42) (.t 43), none, []⟩,
    ⟨(some 45), .load none (.t 44), none, []⟩,
    ⟨(some 46), .bin .add (.t 45) (.c (.int .u32 1000000000)), none, []⟩,
    ⟨(some 47), .mov (.t 8), none, []⟩,
    ⟨(some 48), .bin .sub (.t 46) (.t 47), none, []⟩,
    ⟨(some 49), .buildRow false 1 1 [(.int .u32 0)] [(0, (.t 48))], none, []⟩,
    ⟨(some 50), .append 1 4 (.t 41) (.t 49), none, []⟩,
    ⟨(some 5), .mov (.t 50), none, []⟩] [0, 1, 5, 7])
  (.reg false [⟨(some 6), .mov (.c (.int .u32 1)), none, []⟩] [0, 1, 5, 6, 7])))))))
  (.reg false [⟨(some 13), .mov (.t 7), none, []⟩,
    ⟨(some 14), .bin .add (.t 13) (.c (.int .i64 1)), none, []⟩,
    ⟨(some 7), .mov (.t 14), none, []⟩] [0, 1, 5, 6, 7])))
def f44_c : VCode :=
  (.seq (.reg false [⟨(some 4), .nilrow 1, none, []⟩] [0, 1])
  (.seq (.reg false [⟨(some 5), .nilrow 1, none, []⟩] [0, 1, 5])
  (.seq (.reg false [⟨(some 6), .mov (.c (.int .u32 0)), none, []⟩] [0, 1, 5, 6])
  (.seq (.seq (.reg false [⟨(some 7), .mov (.c (.int .i64 0)), none, []⟩] [0, 1, 5, 6, 7])
  (.block 0 (.loop [0, 1, 5, 6, 7] f44_l0)))
  (.seq (.reg false [⟨(some 51), .mov (.t 5), none, []⟩,
    ⟨(some 52), .call (.c (.func (.func 41) [] [])) [(.t 51)], none, []⟩,
    ⟨(some 4), .mov (.t 52), none, []⟩] [4])
  .ret)))))
def f44 : VFn := ⟨2, 53, f44_c, [.t 4], true, []⟩
/- caliper/caliperref02.mul -/
def f45_l0 : VCode :=
  (.seq (.seq (.reg false [⟨(some 23), .mov (.t 8), none, []⟩,
    ⟨(some 24), .mov (.t 1), none, []⟩,
    ⟨(some 25), .len (.t 24), none, []⟩,
    ⟨(some 26), .bin .lss (.t 23) (.t 25), none, []⟩,
    ⟨(some 27), .mov (.t 26), none, []⟩,
    ⟨(some 28), .mov (.t 7), (some (27, false)), []⟩,
    ⟨(some 29), .bin .gtr (.t 28) (.c (.int .u64 0)), (some (27, false)), []⟩,
    ⟨(some 30), .pick (.t 27) (.c (.bool true)) (.t 29), none, []⟩] [0, 1, 5, 6, 7, 8, 30])
  (.cond (.t 30) .skip (.exit 2)))
  (.seq (.block 3 (.seq (.reg false [⟨(some 33), .mov (.t 7), none, []⟩,
    ⟨(some 34), .mov (.t 5), none, []⟩,
    ⟨(some 35), .mov (.t 6), none, []⟩,
    ⟨(some 36), .mov (.t 8), none, []⟩,
    ⟨(some 37), .bin .add (.t 35) (.t 36), none, []⟩,
    ⟨(some 38), .iaddr 1 (.t 34) (.t 37), none, []⟩,
    ⟨(some 39), .load none (.t 38), none, []⟩,
    ⟨(some 40), .conv (.toInt .u64) (.t 39), none, []⟩,
    ⟨(some 41), .bin .add (.t 33) (.t 40), none, []⟩,
    ⟨(some 9), .mov (.t 41), none, []⟩] [0, 1, 5, 6, 8, 9])
  (.seq (.seq (.reg false [⟨(some 42), .mov (.t 8), none, []⟩,
    ⟨(some 43), .mov (.t 1), none, []⟩,
    ⟨(some 44), .len (.t 43), none, []⟩,
    ⟨(some 45), .bin .lss (.t 42) (.t 44), none, []⟩] [0, 1, 5, 6, 8, 9, 45])
  (.cond (.t 45) (.reg true [⟨(some 46), .mov (.t 9), none, []⟩,
    ⟨(some 47), .mov (.t 0), none, []⟩,
    ⟨(some 48), .mov (.t 6), none, []⟩,
    ⟨(some 49), .iaddr 1 (.t 47) (.t 48), none, []⟩,
    ⟨(some 50), .load none (.t 49), none, []⟩,
    ⟨(some 51), .conv (.toInt .u64) (.t 50), none, []⟩,
    ⟨(some 52), .mov (.t 1), none, []⟩,
    ⟨(some 53), .mov (.t 8), none, []⟩,
    ⟨(some 54), .iaddr 1 (.t 52) (.t 53), none, []⟩,
    ⟨(some 55), .load none (.t 54), none, []⟩,
    ⟨(some 56), .conv (.toInt .u64) (.t 55), none, []⟩,
    ⟨(some 57), .bin .mul (.t 51) (.t 56), none, []⟩,
    ⟨(some 58), .bin .add (.t 46) (.t 57), none, []⟩,
    ⟨(some 9), .mov (.t 58), none, []⟩] [0, 1, 5, 6, 8, 9]) .skip))
  (.seq (.reg false [⟨(some 59), .mov (.t 5), none, []⟩,
    ⟨(some 60), .mov (.t 6), none, []⟩,
    ⟨(some 61), .mov (.t 8), none, []⟩,
    ⟨(some 62), .bin .add (.t 60) (.t 61), none, []⟩,
    ⟨(some 63), .mov (.t 9), none, []⟩,
    ⟨(some 64), .bin .rem (.t 63) (.c (.int .u64 1000000000)), none, []⟩,
    ⟨(some 65), .conv (.toInt .u32) (.t 64), none, []⟩,
    ⟨(some 66), .iaddr 1 (.t 59) (.t 62), none, []⟩,
    ⟨none, .store false 1 (.t 66) (.t 65), none, []⟩] [0, 1, 5, 6, 8, 9])
  (.reg false [⟨(some 67), .mov (.t 9), none, []⟩,
    ⟨(some 68), .bin .quo (.t 67) (.c (.int .u64 1000000000)), none, []⟩,
    ⟨(some 7), .mov (.t 68), none, []⟩] [0, 1, 5, 6, 7, 8])))))
  (.reg false [⟨(some 31), .mov (.t 8), none, []⟩,
    ⟨(some 32), .bin .add (.t 31) (.c (.int .i64 1)), none, []⟩,
    ⟨(some 8), .mov (.t 32), none, []⟩] [0, 1, 5, 6, 7, 8])))
def f45_l1 : VCode :=
  (.seq (.seq (.reg false [⟨(some 17), .mov (.t 6), none, []⟩,
    ⟨(some 18), .mov (.t 0), none, []⟩,
    ⟨(some 19), .len (.t 18), none, []⟩,
    ⟨(some 20), .bin .lss (.t 17) (.t 19), none, []⟩] [0, 1, 5, 6, 20])
  (.cond (.t 20) .skip (.exit 0)))
  (.seq (.block 1 (.seq (.reg false [⟨(some 7), .mov (.c (.int .u64 0)), none, []⟩] [0, 1, 5, 6, 7])
  (.seq (.reg false [⟨(some 8), .mov (.c (.int .i64 0)), none, []⟩] [0, 1, 5, 6, 7, 8])
  (.block 2 (.loop [0, 1, 5, 6, 7, 8] f45_l0)))))
  (.reg false [⟨(some 21), .mov (.t 6), none, []⟩,
    ⟨(some 22), .bin .add (.t 21) (.c (.int .i64 1)), none, []⟩,
    ⟨(some 6), .mov (.t 22), none, []⟩] [0, 1, 5, 6])))
def f45_c : VCode :=
  (.seq (.reg false [⟨(some 4), .nilrow 1, none, []⟩] [0, 1])
  (.seq (.reg false [⟨(some 10), .mov (.t 0), none, []⟩,
    ⟨(some 11), .len (.t 10), none, []⟩,
    ⟨(some 12), .mov (.t 1), none, []⟩,
    ⟨(some 13), .len (.t 12), none, []⟩,
    ⟨(some 14), .bin .add (.t 11) (.t 13), none, []⟩,
    ⟨(some 15), .bin .add (.t 14) (.c (.int .i64 1)), none, []⟩,
    ⟨(some 16), .mkslice false 1 4 [(.int .u32 0)] (.t 15) (.t 15), none, []⟩,
    ⟨(some 5), .mov (.t 16), none, []⟩] [0, 1, 5])
  (.seq (.seq (.reg false [⟨(some 6), .mov (.c (.int .i64 0)), none, []⟩] [0, 1, 5, 6])
  (.block 0 (.loop [0, 1, 5, 6] f45_l1)))
  (.seq (.reg false [⟨(some 69), .mov (.t 5), none, []⟩,
    ⟨(some 70), .call (.c (.func (.func 41) [] [])) [(.t 69)], none, []⟩,
    ⟨(some 4), .mov (.t 70), none, []⟩] [4])
  .ret))))
def f45 : VFn := ⟨2, 71, f45_c, [.t 4], true, []⟩
/- caliper/caliperref02.div -/
def f46_l0 : VCode :=
  (.seq (.seq (.reg false [⟨(some 30), .mov (.t 9), none, []⟩,
    ⟨(some 31), .mov (.t 10), none, []⟩,
    ⟨(some 32), .bin .lss (.t 30) (.t 31), none, []⟩] [0, 1, 6, 7, 8, 9, 10, 32])
  (.cond (.t 32) .skip (.exit 2)))
  (.block 3 (.seq (.reg false [⟨(some 33), .mov (.t 9), none, []⟩,
    ⟨(some 34), .mov (.t 10), none, []⟩,
    ⟨(some 35), .mov (.t 9), none, []⟩,
    ⟨(some 36), .bin .sub (.t 34) (.t 35), none, []⟩,
    ⟨(some 37), .bin .add (.t 36) (.c (.int .u32 1)), none, []⟩,
    ⟨(some 38), .bin .quo (.t 37) (.c (.int .u32 2)), none, []⟩,
    ⟨(some 39), .bin .add (.t 33) (.t 38), none, []⟩,
    ⟨(some 11), .mov (.t 39), none, []⟩] [0, 1, 6, 7, 8, 9, 10, 11])
  (.seq (.reg false [⟨(some 40), .mov (.t 1), none, []⟩,
    ⟨(some 41), .mov (.t 11), none, []⟩,
    ⟨(some 42), .buildRow false 1 1 [(.int .u32 0)] [(0, (.t 41))], none, []⟩,
    ⟨(some 43), .call (.c (.func (.func 41) [] [])) [(.t 42)], none, []⟩,
    ⟨(some 44), .call (.c (.func (.func 45) [] [])) [(.t 40), (.t 43)], none, []⟩,
    ⟨(some 45), .mov (.t 7), none, []⟩,
    ⟨(some 46), .call (.c (.func (.func 43) [] [])) [(.t 44), (.t 45)], none, []⟩,
    ⟨(some 47), .bin .leq (.t 46) (.c (.int .i64 0)), none, []⟩] [0, 1, 6, 7, 8, 9, 10, 11, 47])
  (.cond (.t 47) (.reg false [⟨(some 48), .mov (.t 11), none, []⟩,
    ⟨(some 9), .mov (.t 48), none, []⟩] [0, 1, 6, 7, 8, 9, 10]) (.reg false [⟨(some 49), .mov (.t 11), none, []⟩,
    ⟨(some 50), .bin .sub (.t 49) (.c (.int .u32 1)), none, []⟩,
    ⟨(some 10), .mov (.t 50), none, []⟩] [0, 1, 6, 7, 8, 9, 10]))))))
def f46_l1 : VCode :=
  (.seq (.seq (.reg false [⟨(some 18), .mov (.t 8), none, []⟩,
    ⟨(some 19), .bin .geq (.t 18) (.c (.int .i64 0)), none, []⟩] [0, 1, 6, 7, 8, 19])
  (.cond (.t 19) .skip (.exit 0)))
  (.seq (.block 1 (.seq (.reg false [⟨(some 22), .mov (.t 0), none, []⟩,
    ⟨(some 23), .mov (.t 8), none, []⟩,
    ⟨(some 24), .iaddr 1 (.t 22) (.t 23), none, []⟩,
    ⟨(some 25), .load none (.t 24), none, []⟩,
    ⟨(some 26), .buildRow false 1 1 [(.int .u32 0)] [(0, (.t 25))], none, []⟩,
    ⟨(some 27), .mov (.t 7), none, []⟩,
    ⟨(some 28), .append 1 4 (.t 26) (.t 27), none, []⟩,
    ⟨(some 29), .call (.c (.func (.func 41) [] [])) [(.t 28)], none, []⟩,
    ⟨(some 7), .mov (.t 29), none, []⟩] [0, 1, 6, 7, 8])
  (.seq (.reg false [⟨(some 9), .mov (.c (.int .u32 0)), none, []⟩,
    ⟨(some 10), .mov (.c (.int .u32 999999999)), none, []⟩] [0, 1, 6, 7, 8, 9, 10])
  (.seq (.block 2 (.loop [0, 1, 6, 7, 8, 9, 10] f46_l0))
  (.seq (.reg false [⟨(some 51), .mov (.t 6), none, []⟩,
    ⟨(some 52), .mov (.t 8), none, []⟩,
    ⟨(some 53), .mov (.t 9), none, []⟩,
    ⟨(some 54), .iaddr 1 (.t 51) (.t 52), none, []⟩,
    ⟨none, .store false 1 (.t 54) (.t 53), none, []⟩] [0, 1, 6, 7, 8, 9])
  (.reg false [⟨(some 55), .mov (.t 7), none, []⟩,
    ⟨(some 56), .mov (.t 1), none, []⟩,
    ⟨(some 57), .mov (.t 9), none, []⟩,
    ⟨(some 58), .buildRow false 1 1 [(.int .u32 0)] [(0, (.t 57))], none, []⟩,
    ⟨(some 59), .call (.c (.func (.func 41) [] [])) [(.t 58)], none, []⟩,
    ⟨(some 60), .call (.c (.func (.func 45) [] [])) [(.t 56), (.t 59)], none, []⟩,
    ⟨(some 61), .call (.c (.func (.func 44) [] [])) [(.t 55), (.t 60)], none, []⟩,
    ⟨(some 7), .mov (.t 61), none, []⟩] [0, 1, 6, 7, 8]))))))
  (.reg false [⟨(some 20), .mov (.t 8), none, []⟩,
    ⟨(some 21), .bin .sub (.t 20) (.c (.int .i64 1)), none, []⟩,
    ⟨(some 8), .mov (.t 21), none, []⟩] [0, 1, 6, 7, 8])))
def f46_c : VCode :=
  (.seq (.reg false [⟨(some 4), .nilrow 1, none, []⟩,
    ⟨(some 5), .nilrow 1, none, []⟩] [0, 1])
  (.seq (.reg false [⟨(some 12), .mov (.t 0), none, []⟩,
    ⟨(some 13), .len (.t 12), none, []⟩,
    ⟨(some 14), .mkslice false 1 4 [(.int .u32 0)] (.t 13) (.t 13), none, []⟩,
    ⟨(some 6), .mov (.t 14), none, []⟩] [0, 1, 6])
  (.seq (.reg false [⟨(some 7), .nilrow 1, none, []⟩] [0, 1, 6, 7])
  (.seq (.seq (.reg false [⟨(some 15), .mov (.t 0), none, []⟩,
    ⟨(some 16), .len (.t 15), none, []⟩,
    ⟨(some 17), .bin .sub (.t 16) (.c (.int .i64 1)), none, []⟩,
    ⟨(some 8), .mov (.t 17), none, []⟩] [0, 1, 6, 7, 8])
  (.block 0 (.loop [0, 1, 6, 7, 8] f46_l1)))
  (.seq (.reg false [⟨(some 62), .mov (.t 6), none, []⟩,
    ⟨(some 63), .call (.c (.func (.func 41) [] [])) [(.t 62)], none, []⟩,
    ⟨(some 64), .mov (.t 7), none, []⟩,
    ⟨(some 4), .mov (.t 63), none, []⟩,
    ⟨(some 5), .mov (.t 64), none, []⟩] [4, 5])
  .ret)))))
def f46 : VFn := ⟨2, 65, f46_c, [.t 4, .t 5], true, []⟩
/- slices.Max[[]uint32,uint32] -/
def f47_l0 : VCode :=
  (.seq (.seq (.reg false [⟨(some 12), .mov (.t 4), none, []⟩,
    ⟨(some 13), .mov (.t 0), none, []⟩,
    ⟨(some 14), .len (.t 13), none, []⟩,
    ⟨(some 15), .bin .lss (.t 12) (.t 14), none, []⟩] [0, 3, 4, 15])
  (.cond (.t 15) .skip (.exit 0)))
  (.seq (.block 1 (.reg false [⟨(some 18), .mov (.t 3), none, []⟩,
    ⟨(some 19), .mov (.t 0), none, []⟩,
    ⟨(some 20), .mov (.t 4), none, []⟩,
    ⟨(some 21), .iaddr 1 (.t 19) (.t 20), none, []⟩,
    ⟨(some 22), .load none (.t 21), none, []⟩,
    ⟨(some 23), .max [(.t 18), (.t 22)], none, []⟩,
    ⟨(some 3), .mov (.t 23), none, []⟩] [0, 3, 4]))
  (.reg false [⟨(some 16), .mov (.t 4), none, []⟩,
    ⟨(some 17), .bin .add (.t 16) (.c (.int .i64 1)), none, []⟩,
    ⟨(some 4), .mov (.t 17), none, []⟩] [0, 3, 4])))
def f47_c : VCode :=
  (.seq (.reg false [⟨(some 2), .mov (.c (.int .u32 0)), none, []⟩] [0])
  (.seq (.seq (.reg false [⟨(some 5), .mov (.t 0), none, []⟩,
    ⟨(some 6), .len (.t 5), none, []⟩,
    ⟨(some 7), .bin .lss (.t 6) (.c (.int .i64 1)), none, []⟩] [0, 7])
  (.cond (.t 7) (.reg false [⟨(some 8), .mkiface 9 (.c (.str ⟨#[115, 108, 105, 99, 101, 115, 46, 77, 97, 120, 58, 32, 101, 109, 112, 116, 121, 32, 108, 105, 115, 116]⟩)), none, []⟩,
    ⟨none, .panic (.t 8), none, []⟩] [0]) .skip))
  (.seq (.reg false [⟨(some 9), .mov (.t 0), none, []⟩,
    ⟨(some 10), .iaddr 1 (.t 9) (.c (.int .i64 0)), none, []⟩,
    ⟨(some 11), .load none (.t 10), none, []⟩,
    ⟨(some 3), .mov (.t 11), none, []⟩] [0, 3])
  (.seq (.seq (.reg false [⟨(some 4), .mov (.c (.int .i64 1)), none, []⟩] [0, 3, 4])
  (.block 0 (.loop [0, 3, 4] f47_l0)))
  (.seq (.reg false [⟨(some 24), .mov (.t 3), none, []⟩,
    ⟨(some 2), .mov (.t 24), none, []⟩] [2])
  .ret)))))
def f47 : VFn := ⟨1, 25, f47_c, [.t 2], true, []⟩
/- slices.Clone[[]uint32,uint32] -/
def f48_c : VCode :=
  (.seq (.reg false [⟨(some 2), .nilrow 1, none, []⟩] [0])
  (.seq (.seq (.reg false [⟨(some 3), .mov (.t 0), none, []⟩,
    ⟨(some 4), .isnil .slice false (.t 3), none, []⟩] [0, 4])
  (.cond (.t 4) (.seq (.reg false [⟨(some 2), .nilrow 1, none, []⟩] [2])
  .ret) .skip))
  (.seq (.reg false [⟨(some 5), .buildRow false 1 0 [(.int .u32 0)] [], none, []⟩,
    ⟨(some 6), .mov (.t 0), none, []⟩,
    ⟨(some 7), .append 1 4 (.t 5) (.t 6), none, []⟩,
    ⟨(some 2), .mov (.t 7), none, []⟩] [2])
  .ret)))
def f48 : VFn := ⟨1, 8, f48_c, [.t 2], true, []⟩
/- caliper/nat.small -/
def f49_l0 : VCode :=
  (.seq (.seq (.reg false [⟨(some 15), .mov (.t 8), none, []⟩,
    ⟨(some 16), .bin .geq (.t 15) (.c (.int .i64 0)), none, []⟩] [0, 1, 6, 7, 8, 16])
  (.cond (.t 16) .skip (.exit 0)))
  (.seq (.block 1 (.seq (.reg false [⟨(some 19), .mov (.t 7), none, []⟩,
    ⟨(some 20), .bin .mul (.t 19) (.c (.int .u64 1000000000)), none, []⟩,
    ⟨(some 21), .mov (.t 0), none, []⟩,
    ⟨(some 22), .mov (.t 8), none, []⟩,
    ⟨(some 23), .iaddr 1 (.t 21) (.t 22), none, []⟩,
    ⟨(some 24), .load none (.t 23), none, []⟩,
    ⟨(some 25), .conv (.toInt .u64) (.t 24), none, []⟩,
    ⟨(some 26), .bin .add (.t 20) (.t 25), none, []⟩,
    ⟨(some 7), .mov (.t 26), none, []⟩] [0, 1, 6, 7, 8])
  (.reg true [⟨(some 27), .mov (.t 6), none, []⟩,
    ⟨(some 28), .mov (.t 8), none, []⟩,
    ⟨(some 29), .mov (.t 7), none, []⟩,
    ⟨(some 30), .mov (.t 1), none, []⟩,
    ⟨(some 31), .conv (.toInt .u64) (.t 30), none, []⟩,
    ⟨(some 32), .bin .quo (.t 29) (.t 31), none, []⟩,
    ⟨(some 33), .conv (.toInt .u32) (.t 32), none, []⟩,
    ⟨(some 34), .mov (.t 7), none, []⟩,
    ⟨(some 35), .mov (.t 1), none, []⟩,
    ⟨(some 36), .conv (.toInt .u64) (.t 35), none, []⟩,
    ⟨(some 37), .bin .rem (.t 34) (.t 36), none, []⟩,
    ⟨(some 38), .iaddr 1 (.t 27) (.t 28), none, []⟩,
    ⟨none, .store false 1 (.t 38) (.t 33), none, []⟩,
    ⟨(some 7), .mov (.t 37), none, []⟩] [0, 1, 6, 7, 8])))
  (.reg false [⟨(some 17), .mov (.t 8), none, []⟩,
    ⟨(some 18), .bin .sub (.t 17) (.c (.int .i64 1)), none, []⟩,
    ⟨(some 8), .mov (.t 18), none, []⟩] [0, 1, 6, 7, 8])))
def f49_c : VCode :=
  (.seq (.reg false [⟨(some 4), .nilrow 1, none, []⟩,
    ⟨(some 5), .nilrow 1, none, []⟩] [0, 1])
  (.seq (.reg false [⟨(some 9), .mov (.t 0), none, []⟩,
    ⟨(some 10), .len (.t 9), none, []⟩,
    ⟨(some 11), .mkslice false 1 4 [(.int .u32 0)] (.t 10) (.t 10), none, []⟩,
    ⟨(some 6), .mov (.t 11), none, []⟩] [0, 1, 6])
  (.seq (.reg false [⟨(some 7), .mov (.c (.int .u64 0)), none, []⟩] [0, 1, 6, 7])
  (.seq (.seq (.reg false [⟨(some 12), .mov (.t 0), none, []⟩,
    ⟨(some 13), .len (.t 12), none, []⟩,
    ⟨(some 14), .bin .sub (.t 13) (.c (.int .i64 1)), none, []⟩,
    ⟨(some 8), .mov (.t 14), none, []⟩] [0, 1, 6, 7, 8])
  (.block 0 (.loop [0, 1, 6, 7, 8] f49_l0)))
  (.seq (.reg false [⟨(some 39), .mov (.t 6), none, []⟩,
    ⟨(some 40), .call (.c (.func (.func 40) [] [])) [(.t 39)], none, []⟩,
    ⟨(some 41), .mov (.t 7), none, []⟩,
    ⟨(some 42), .conv (.toInt .u32) (.t 41), none, []⟩,
    ⟨(some 43), .buildRow false 1 1 [(.int .u32 0)] [(0, (.t 42))], none, []⟩,
    ⟨(some 44), .call (.c (.func (.func 40) [] [])) [(.t 43)], none, []⟩,
    ⟨(some 4), .mov (.t 40), none, []⟩,
    ⟨(some 5), .mov (.t 44), none, []⟩] [4, 5])
  .ret)))))
def f49 : VFn := ⟨2, 45, f49_c, [.t 4, .t 5], true, []⟩
/- caliper/nat.scaled -/
def f50_l0 : VCode :=
  (.seq (.reg false [⟨(some 17), .bin .lss (.t 16) (.t 15), none, []⟩] [0, 1, 5, 6, 14, 15, 16, 17])
  (.seq (.cond (.t 17) .skip (.exit 0))
  (.seq (.block 1 (.seq (.reg false [⟨(some 18), .mov (.t 16), none, []⟩,
    ⟨(some 19), .iaddr 1 (.t 14) (.t 16), none, []⟩,
    ⟨(some 20), .load none (.t 19), none, []⟩,
    ⟨(some 7), .mov (.t 18), none, []⟩,
    ⟨(some 8), .mov (.t 20), none, []⟩] [0, 1, 5, 6, 7, 8, 14, 15, 16])
  (.seq (.reg false [⟨(some 21), .mov (.t 8), none, []⟩,
    ⟨(some 22), .conv (.toInt .u64) (.t 21), none, []⟩,
    ⟨(some 23), .mov (.t 1), none, []⟩,
    ⟨(some 24), .conv (.toInt .u64) (.t 23), none, []⟩,
    ⟨(some 25), .bin .mul (.t 22) (.t 24), none, []⟩,
    ⟨(some 26), .mov (.t 6), none, []⟩,
    ⟨(some 27), .bin .add (.t 25) (.t 26), none, []⟩,
    ⟨(some 9), .mov (.t 27), none, []⟩] [0, 1, 5, 7, 9, 14, 15, 16])
  (.reg false [⟨(some 28), .mov (.t 5), none, []⟩,
    ⟨(some 29), .mov (.t 7), none, []⟩,
    ⟨(some 30), .mov (.t 9), none, []⟩,
    ⟨(some 31), .bin .rem (.t 30) (.c (.int .u64 1000000000)), none, []⟩,
    ⟨(some 32), .conv (.toInt .u32) (.t 31), none, []⟩,
    ⟨(some 33), .mov (.t 9), none, []⟩,
    ⟨(some 34), .bin .quo (.t 33) (.c (.int .u64 1000000000)), none, []⟩,
    ⟨(some 35), .iaddr 1 (.t 28) (.t 29), none, []⟩,
    ⟨none, .store false 1 (.t 35) (.t 32), none, []⟩,
    ⟨(some 6), .mov (.t 34), none, []⟩] [0, 1, 5, 6, 14, 15, 16]))))
  (.reg false [⟨(some 36), .bin .add (.t 16) (.c (.int .i64 1)), none, []⟩,
    ⟨(some 16), .mov (.t 36), none, []⟩] [0, 1, 5, 6, 14, 15, 16]))))
def f50_c : VCode :=
  (.seq (.reg false [⟨(some 4), .nilrow 1, none, []⟩] [0, 1])
  (.seq (.reg false [⟨(some 10), .mov (.t 0), none, []⟩,
    ⟨(some 11), .len (.t 10), none, []⟩,
    ⟨(some 12), .bin .add (.t 11) (.c (.int .i64 1)), none, []⟩,
    ⟨(some 13), .mkslice false 1 4 [(.int .u32 0)] (.t 12) (.t 12), none, []⟩,
    ⟨(some 5), .mov (.t 13), none, []⟩] [0, 1, 5])
  (.seq (.reg false [⟨(some 6), .mov (.c (.int .u64 0)), none, []⟩] [0, 1, 5, 6])
  (.seq (.seq (.reg false [⟨(some 14), .mov (.t 0), none, []⟩,
    ⟨(some 15), .len (.t 14), none, []⟩,
    ⟨(some 16), .mov (.c (.int .i64 0)), none, []⟩] [0, 1, 5, 6, 14, 15, 16])
  (.block 0 (.loop [0, 1, 5, 6, 14, 15, 16] f50_l0)))
  (.seq (.reg false [⟨(some 37), .mov (.t 5), none, []⟩,
    ⟨(some 38), .mov (.t 0), none, []⟩,
    ⟨(some 39), .len (.t 38), none, []⟩,
    ⟨(some 40), .mov (.t 6), none, []⟩,
    ⟨(some 41), .conv (.toInt .u32) (.t 40), none, []⟩,
    ⟨(some 42), .iaddr 1 (.t 37) (.t 39), none, []⟩,
    ⟨none, .store false 1 (.t 42) (.t 41), none, []⟩] [5])
  (.seq (.reg false [⟨(some 43), .mov (.t 5), none, []⟩,
    ⟨(some 4), .mov (.t 43), none, []⟩] [4])
  .ret))))))
def f50 : VFn := ⟨2, 44, f50_c, [.t 4], true, []⟩
/- caliper/nat.guess -/
def f51_l0 : VCode :=
  (.seq (.seq (.reg false [⟨(some 56), .mov (.t 0), none, []⟩,
    ⟨(some 57), .mov (.t 1), none, []⟩,
    ⟨(some 58), .mov (.t 2), none, []⟩,
    ⟨(some 59), .mov (.t 11), none, []⟩,
    ⟨(some 60), .conv (.toInt .u32) (.t 59), none, []⟩,
    ⟨(some 61), .call (.c (.func (.func 66) [] [])) [(.t 56), (.t 57), (.t 58), (.t 60)], none, []⟩,
    ⟨(some 62), .un .not (.t 61), none, []⟩] [0, 1, 2, 11, 62])
  (.cond (.t 62) .skip (.exit 0)))
  (.block 1 (.reg false [⟨(some 63), .mov (.t 11), none, []⟩,
    ⟨(some 64), .bin .sub (.t 63) (.c (.int .u64 1)), none, []⟩,
    ⟨(some 11), .mov (.t 64), none, []⟩] [0, 1, 2, 11])))
def f51_c : VCode :=
  (.seq (.reg false [⟨(some 6), .mov (.c (.int .u32 0)), none, []⟩] [0, 1, 2])
  (.seq (.reg false [⟨(some 13), .mov (.t 1), none, []⟩,
    ⟨(some 14), .len (.t 13), none, []⟩,
    ⟨(some 7), .mov (.t 14), none, []⟩] [0, 1, 2, 7])
  (.seq (.reg false [⟨(some 16), .mov (.t 0), none, []⟩,
    ⟨(some 17), .mov (.t 2), none, []⟩,
    ⟨(some 18), .mov (.t 7), none, []⟩,
    ⟨(some 19), .bin .add (.t 17) (.t 18), none, []⟩,
    ⟨(some 20), .iaddr 1 (.t 16) (.t 19), none, []⟩,
    ⟨(some 21), .load none (.t 20), none, []⟩,
    ⟨(some 22), .conv (.toInt .u64) (.t 21), none, []⟩,
    ⟨(some 23), .call (.c (.func (.func 63) [] [])) [(.t 22), (.c (.int .u64 1000000000))], none, []⟩,
    ⟨(some 15), .mov (.t 23), none, []⟩,
    ⟨(some 24), .extract (.t 15) 0, none, []⟩,
    ⟨(some 25), .extract (.t 15) 1, none, []⟩,
    ⟨(some 8), .mov (.t 24), none, []⟩,
    ⟨(some 9), .mov (.t 25), none, []⟩] [0, 1, 2, 7, 8, 9])
  (.seq (.reg false [⟨(some 27), .mov (.t 9), none, []⟩,
    ⟨(some 28), .mov (.t 0), none, []⟩,
    ⟨(some 29), .mov (.t 2), none, []⟩,
    ⟨(some 30), .mov (.t 7), none, []⟩,
    ⟨(some 31), .bin .add (.t 29) (.t 30), none, []⟩,
    ⟨(some 32), .bin .sub (.t 31) (.c (.int .i64 1)), none, []⟩,
    ⟨(some 33), .iaddr 1 (.t 28) (.t 32), none, []⟩,
    ⟨(some 34), .load none (.t 33), none, []⟩,
    ⟨(some 35), .conv (.toInt .u64) (.t 34), none, []⟩,
    ⟨(some 36), .call (.c (.func (.func 64) [] [])) [(.t 27), (.t 35), (.c (.int .u64 0))], none, []⟩,
    ⟨(some 26), .mov (.t 36), none, []⟩,
    ⟨(some 37), .extract (.t 26) 0, none, []⟩,
    ⟨(some 38), .extract (.t 26) 1, none, []⟩,
    ⟨(some 9), .mov (.t 37), none, []⟩,
    ⟨(some 10), .mov (.t 38), none, []⟩] [0, 1, 2, 7, 8, 9, 10])
  (.seq (.reg false [⟨(some 39), .mov (.t 8), none, []⟩,
    ⟨(some 40), .mov (.t 10), none, []⟩,
    ⟨(some 41), .bin .add (.t 39) (.t 40), none, []⟩,
    ⟨(some 8), .mov (.t 41), none, []⟩] [0, 1, 2, 7, 8, 9])
  (.seq (.reg false [⟨(some 43), .mov (.t 8), none, []⟩,
    ⟨(some 44), .mov (.t 9), none, []⟩,
    ⟨(some 45), .mov (.t 1), none, []⟩,
    ⟨(some 46), .mov (.t 7), none, []⟩,
    ⟨(some 47), .bin .sub (.t 46) (.c (.int .i64 1)), none, []⟩,
    ⟨(some 48), .iaddr 1 (.t 45) (.t 47), none, []⟩,
    ⟨(some 49), .load none (.t 48), none, []⟩,
    ⟨(some 50), .conv (.toInt .u64) (.t 49), none, []⟩,
    ⟨(some 51), .call (.c (.func (.func 65) [] [])) [(.t 43), (.t 44), (.t 50)], none, []⟩,
    ⟨(some 42), .mov (.t 51), none, []⟩,
    ⟨(some 52), .extract (.t 42) 0, none, []⟩,
    ⟨(some 53), .extract (.t 42) 1, none, []⟩,
    ⟨(some 11), .mov (.t 52), none, []⟩,
    ⟨(some 12), .mov (.t 53), none, []⟩] [0, 1, 2, 11])
  (.seq (.seq (.reg false [⟨(some 54), .mov (.t 11), none, []⟩,
    ⟨(some 55), .bin .geq (.t 54) (.c (.int .u64 1000000000)), none, []⟩] [0, 1, 2, 11, 55])
  (.cond (.t 55) (.reg false [⟨(some 11), .mov (.c (.int .u64 999999999)), none, []⟩] [0, 1, 2, 11]) .skip))
  (.seq (.block 0 (.loop [0, 1, 2, 11] f51_l0))
  (.seq (.reg false [⟨(some 65), .mov (.t 11), none, []⟩,
    ⟨(some 66), .conv (.toInt .u32) (.t 65), none, []⟩,
    ⟨(some 6), .mov (.t 66), none, []⟩] [6])
  .ret)))))))))
def f51 : VFn := ⟨3, 67, f51_c, [.t 6], false, [0]⟩
/- caliper/nat.limb -/
def f52_c : VCode :=
  (.seq (.reg false [⟨(some 4), .mov (.c (.int .u32 0)), none, []⟩] [0, 1])
  (.seq (.seq (.reg false [⟨(some 5), .mov (.t 1), none, []⟩,
    ⟨(some 6), .mov (.t 0), none, []⟩,
    ⟨(some 7), .len (.t 6), none, []⟩,
    ⟨(some 8), .bin .lss (.t 5) (.t 7), none, []⟩] [0, 1, 8])
  (.cond (.t 8) (.seq (.reg false [⟨(some 9), .mov (.t 0), none, []⟩,
    ⟨(some 10), .mov (.t 1), none, []⟩,
    ⟨(some 11), .iaddr 1 (.t 9) (.t 10), none, []⟩,
    ⟨(some 12), .load none (.t 11), none, []⟩,
    ⟨(some 4), .mov (.t 12), none, []⟩] [4])
  .ret) .skip))
  (.seq (.reg false [⟨(some 4), .mov (.c (.int .u32 0)), none, []⟩] [4])
  .ret)))
def f52 : VFn := ⟨2, 13, f52_c, [.t 4], true, []⟩
/- cmp.Compare[int] -/
def f53_c : VCode :=
  (.seq (.reg false [⟨(some 4), .mov (.c (.int .i64 0)), none, []⟩] [0, 1])
  (.seq (.reg false [⟨(some 7), .mov (.t 0), none, []⟩,
    ⟨(some 8), .call (.c (.func (.func 67) [] [])) [(.t 7)], none, []⟩,
    ⟨(some 5), .mov (.t 8), none, []⟩] [0, 1, 5])
  (.seq (.reg false [⟨(some 9), .mov (.t 1), none, []⟩,
    ⟨(some 10), .call (.c (.func (.func 67) [] [])) [(.t 9)], none, []⟩,
    ⟨(some 6), .mov (.t 10), none, []⟩] [0, 1, 5, 6])
  (.seq (.seq (.reg false [⟨(some 11), .mov (.t 5), none, []⟩] [0, 1, 6, 11])
  (.cond (.t 11) (.seq (.seq (.reg false [⟨(some 12), .mov (.t 6), none, []⟩] [12])
  (.cond (.t 12) (.seq (.reg false [⟨(some 4), .mov (.c (.int .i64 0)), none, []⟩] [4])
  .ret) .skip))
  (.seq (.reg false [⟨(some 4), .mov (.c (.int .i64 (-1))), none, []⟩] [4])
  .ret)) .skip))
  (.seq (.seq (.reg false [⟨(some 13), .mov (.t 6), none, []⟩] [0, 1, 13])
  (.cond (.t 13) (.seq (.reg false [⟨(some 4), .mov (.c (.int .i64 1)), none, []⟩] [4])
  .ret) .skip))
  (.seq (.seq (.reg false [⟨(some 14), .mov (.t 0), none, []⟩,
    ⟨(some 15), .mov (.t 1), none, []⟩,
    ⟨(some 16), .bin .lss (.t 14) (.t 15), none, []⟩] [0, 1, 16])
  (.cond (.t 16) (.seq (.reg false [⟨(some 4), .mov (.c (.int .i64 (-1))), none, []⟩] [4])
  .ret) .skip))
  (.seq (.seq (.reg false [⟨(some 17), .mov (.t 0), none, []⟩,
    ⟨(some 18), .mov (.t 1), none, []⟩,
    ⟨(some 19), .bin .gtr (.t 17) (.t 18), none, []⟩] [19])
  (.cond (.t 19) (.seq (.reg false [⟨(some 4), .mov (.c (.int .i64 1)), none, []⟩] [4])
  .ret) .skip))
  (.seq (.reg false [⟨(some 4), .mov (.c (.int .i64 0)), none, []⟩] [4])
  .ret))))))))
def f53 : VFn := ⟨2, 20, f53_c, [.t 4], true, []⟩
/- cmp.Compare[uint32] -/
def f54_c : VCode :=
  (.seq (.reg false [⟨(some 4), .mov (.c (.int .i64 0)), none, []⟩] [0, 1])
  (.seq (.reg false [⟨(some 7), .mov (.t 0), none, []⟩,
    ⟨(some 8), .call (.c (.func (.func 68) [] [])) [(.t 7)], none, []⟩,
    ⟨(some 5), .mov (.t 8), none, []⟩] [0, 1, 5])
  (.seq (.reg false [⟨(some 9), .mov (.t 1), none, []⟩,
    ⟨(some 10), .call (.c (.func (.func 68) [] [])) [(.t 9)], none, []⟩,
    ⟨(some 6), .mov (.t 10), none, []⟩] [0, 1, 5, 6])
  (.seq (.seq (.reg false [⟨(some 11), .mov (.t 5), none, []⟩] [0, 1, 6, 11])
  (.cond (.t 11) (.seq (.seq (.reg false [⟨(some 12), .mov (.t 6), none, []⟩] [12])
  (.cond (.t 12) (.seq (.reg false [⟨(some 4), .mov (.c (.int .i64 0)), none, []⟩] [4])
  .ret) .skip))
  (.seq (.reg false [⟨(some 4), .mov (.c (.int .i64 (-1))), none, []⟩] [4])
  .ret)) .skip))
  (.seq (.seq (.reg false [⟨(some 13), .mov (.t 6), none, []⟩] [0, 1, 13])
  (.cond (.t 13) (.seq (.reg false [⟨(some 4), .mov (.c (.int .i64 1)), none, []⟩] [4])
  .ret) .skip))
  (.seq (.seq (.reg false [⟨(some 14), .mov (.t 0), none, []⟩,
    ⟨(some 15), .mov (.t 1), none, []⟩,
    ⟨(some 16), .bin .lss (.t 14) (.t 15), none, []⟩] [0, 1, 16])
  (.cond (.t 16) (.seq (.reg false [⟨(some 4), .mov (.c (.int .i64 (-1))), none, []⟩] [4])
  .ret) .skip))
  (.seq (.seq (.reg false [⟨(some 17), .mov (.t 0), none, []⟩,
    ⟨(some 18), .mov (.t 1), none, []⟩,
    ⟨(some 19), .bin .gtr (.t 17) (.t 18), none, []⟩] [19])
  (.cond (.t 19) (.seq (.reg false [⟨(some 4), .mov (.c (.int .i64 1)), none, []⟩] [4])
  .ret) .skip))
  (.seq (.reg false [⟨(some 4), .mov (.c (.int .i64 0)), none, []⟩] [4])
  .ret))))))))
def f54 : VFn := ⟨2, 20, f54_c, [.t 4], true, []⟩
/- caliper/nat.less$1 -/
def f55_c : VCode :=
  (.seq (.reg false [⟨(some 6), .mov (.c (.int .u32 0)), none, []⟩,
    ⟨(some 7), .mov (.c (.int .u32 0)), none, []⟩] [0, 1, 2])
  (.seq (.reg false [⟨(some 8), .mov (.t 1), none, []⟩,
    ⟨(some 9), .mov (.t 2), none, []⟩,
    ⟨(some 10), .bin .add (.t 8) (.t 9), none, []⟩,
    ⟨(some 1), .mov (.t 10), none, []⟩] [0, 1])
  (.seq (.seq (.reg false [⟨(some 11), .mov (.t 0), none, []⟩,
    ⟨(some 12), .mov (.t 1), none, []⟩,
    ⟨(some 13), .bin .lss (.t 11) (.t 12), none, []⟩] [0, 1, 13])
  (.cond (.t 13) (.seq (.reg false [⟨(some 14), .mov (.t 0), none, []⟩,
    ⟨(some 15), .bin .add (.t 14) (.c (.int .u32 1000000000)), none, []⟩,
    ⟨(some 16), .mov (.t 1), none, []⟩,
    ⟨(some 17), .bin .sub (.t 15) (.t 16), none, []⟩,
    ⟨(some 6), .mov (.t 17), none, []⟩,
    ⟨(some 7), .mov (.c (.int .u32 1)), none, []⟩] [6, 7])
  .ret) .skip))
  (.seq (.reg false [⟨(some 18), .mov (.t 0), none, []⟩,
    ⟨(some 19), .mov (.t 1), none, []⟩,
    ⟨(some 20), .bin .sub (.t 18) (.t 19), none, []⟩,
    ⟨(some 6), .mov (.t 20), none, []⟩,
    ⟨(some 7), .mov (.c (.int .u32 0)), none, []⟩] [6, 7])
  .ret))))
def f55 : VFn := ⟨3, 21, f55_c, [.t 6, .t 7], true, []⟩
/- strings.trimLeftByte -/
def f56_l0 : VCode :=
  (.seq (.seq (.reg false [⟨(some 5), .mov (.t 0), none, []⟩,
    ⟨(some 6), .lens (.t 5), none, []⟩,
    ⟨(some 7), .bin .gtr (.t 6) (.c (.int .i64 0)), none, []⟩,
    ⟨(some 8), .mov (.t 7), none, []⟩,
    ⟨(some 9), .mov (.t 0), (some (8, true)), []⟩,
    ⟨(some 10), .idxs (.t 9) (.c (.int .i64 0)), (some (8, true)), []⟩,
    ⟨(some 11), .mov (.t 1), (some (8, true)), []⟩,
    ⟨(some 12), .bin .eql (.t 10) (.t 11), (some (8, true)), []⟩,
    ⟨(some 13), .pick (.t 8) (.t 12) (.c (.bool false)), none, []⟩] [0, 1, 13])
  (.cond (.t 13) .skip (.exit 0)))
  (.block 1 (.reg false [⟨(some 14), .mov (.t 0), none, []⟩,
    ⟨(some 15), .slstr (.t 14) (some (.c (.int .i64 1))) none, none, []⟩,
    ⟨(some 0), .mov (.t 15), none, []⟩] [0, 1])))
def f56_c : VCode :=
  (.seq (.reg false [⟨(some 4), .mov (.c (.str ⟨#[]⟩)), none, []⟩] [0, 1])
  (.seq (.block 0 (.loop [0, 1] f56_l0))
  (.seq (.reg false [⟨(some 16), .mov (.t 0), none, []⟩,
    ⟨(some 4), .mov (.t 16), none, []⟩] [4])
  .ret)))
def f56 : VFn := ⟨2, 17, f56_c, [.t 4], true, []⟩
/- strings.trimRightByte -/
def f57_l0 : VCode :=
  (.seq (.seq (.reg false [⟨(some 5), .mov (.t 0), none, []⟩,
    ⟨(some 6), .lens (.t 5), none, []⟩,
    ⟨(some 7), .bin .gtr (.t 6) (.c (.int .i64 0)), none, []⟩,
    ⟨(some 8), .mov (.t 7), none, []⟩,
    ⟨(some 9), .mov (.t 0), (some (8, true)), []⟩,
    ⟨(some 10), .mov (.t 0), (some (8, true)), []⟩,
    ⟨(some 11), .lens (.t 10), (some (8, true)), []⟩,
    ⟨(some 12), .bin .sub (.t 11) (.c (.int .i64 1)), (some (8, true)), []⟩,
    ⟨(some 13), .idxs (.t 9) (.t 12), (some (8, true)), []⟩,
    ⟨(some 14), .mov (.t 1), (some (8, true)), []⟩,
    ⟨(some 15), .bin .eql (.t 13) (.t 14), (some (8, true)), []⟩,
    ⟨(some 16), .pick (.t 8) (.t 15) (.c (.bool false)), none, []⟩] [0, 1, 16])
  (.cond (.t 16) .skip (.exit 0)))
  (.block 1 (.reg false [⟨(some 17), .mov (.t 0), none, []⟩,
    ⟨(some 18), .mov (.t 0), none, []⟩,
    ⟨(some 19), .lens (.t 18), none, []⟩,
    ⟨(some 20), .bin .sub (.t 19) (.c (.int .i64 1)), none, []⟩,
    ⟨(some 21), .slstr (.t 17) none (some (.t 20)), none, []⟩,
    ⟨(some 0), .mov (.t 21), none, []⟩] [0, 1])))
def f57_c : VCode :=
  (.seq (.reg false [⟨(some 4), .mov (.c (.str ⟨#[]⟩)), none, []⟩] [0, 1])
  (.seq (.block 0 (.loop [0, 1] f57_l0))
  (.seq (.reg false [⟨(some 22), .mov (.t 0), none, []⟩,
    ⟨(some 4), .mov (.t 22), none, []⟩] [4])
  .ret)))
def f57 : VFn := ⟨2, 23, f57_c, [.t 4], true, []⟩
/- strings.makeASCIISet -/
def f58_l0 : VCode :=
  (.seq (.seq (.reg false [⟨(some 6), .mov (.t 4), none, []⟩,
    ⟨(some 7), .mov (.t 0), none, []⟩,
    ⟨(some 8), .lens (.t 7), none, []⟩,
    ⟨(some 9), .bin .lss (.t 6) (.t 8), none, []⟩] [0, 2, 4, 9])
  (.cond (.t 9) .skip (.exit 0)))
  (.seq (.block 1 (.seq (.reg false [⟨(some 12), .mov (.t 0), none, []⟩,
    ⟨(some 13), .mov (.t 4), none, []⟩,
    ⟨(some 14), .idxs (.t 12) (.t 13), none, []⟩,
    ⟨(some 5), .mov (.t 14), none, []⟩] [0, 2, 4, 5])
  (.seq (.seq (.reg false [⟨(some 15), .mov (.t 5), none, []⟩,
    ⟨(some 16), .bin .geq (.t 15) (.c (.int .u8 128)), none, []⟩] [0, 2, 4, 5, 16])
  (.cond (.t 16) (.seq (.reg false [⟨(some 17), .load (some 256) (.t 2), none, []⟩,
    ⟨none, .store true 256 (.t 2) (.t 17), none, []⟩,
    ⟨(some 3), .mov (.c (.bool false)), none, []⟩] [2, 3])
  .ret) .skip))
  (.reg false [⟨(some 18), .mov (.t 5), none, []⟩,
    ⟨(some 19), .iaddra 256 1 (.t 2) (.t 18), none, []⟩,
    ⟨none, .store false 1 (.t 19) (.c (.bool true)), none, []⟩] [0, 2, 4]))))
  (.reg false [⟨(some 10), .mov (.t 4), none, []⟩,
    ⟨(some 11), .bin .add (.t 10) (.c (.int .i64 1)), none, []⟩,
    ⟨(some 4), .mov (.t 11), none, []⟩] [0, 2, 4])))
def f58_c : VCode :=
  (.seq (.reg false [⟨(some 2), .alloc true [(.bool false), (.bool false), (.bool false), (.bool false), (.bool false), (.bool false), (.bool false), (.bool false), (.bool false), (.bool false), (.bool false), (.bool false), (.bool false), (.bool false), (.bool false), (.bool false), (.bool false), (.bool false), (.bool false), (.bool false), (.bool false), (.bool false), (.bool false), (.bool false), (.bool false), (.bool false), (.bool false), (.bool false), (.bool false), (.bool false), (.bool false), (.bool false), (.bool false), (.bool false), (.bool false), (.bool false), (.bool false), (.bool false), (.bool false), (.bool false), (.bool false), (.bool false), (.bool false), (.bool false), (.bool false), (.bool false), (.bool false), (.bool false), (.bool false), (.bool false), (.bool false), (.bool false), (.bool false), (.bool false), (.bool false), (.bool false), (.bool false), (.bool false), (.bool false), (.bool false), (.bool false), (.bool false), (.bool false), (.bool false), (.bool false), (.bool false), (.bool false), (.bool false), (.bool false), (.bool false), (.bool false), (.bool false), (.bool false), (.bool false), (.bool false), (.bool false), (.bool false), (.bool false), (.bool false), (.bool false), (.bool false), (.bool false), (.bool false), (.bool false), (.bool false), (.bool false), (.bool false), (.bool false), (.bool false), (.bool false), (.bool false), (.bool false), (.bool false), (.bool false), (.bool false), (.bool false), (.bool false), (.bool false), (.bool false), (.bool false), (.bool false), (.bool false), (.bool false), (.bool false), (.bool false), (.bool false), (.bool false), (.bool false), (.bool false), (.bool false), (.bool false), (.bool false), (.bool false), (.bool false), (.bool false), (.bool false), (.bool false), (.bool false), (.bool false), (.bool false), (.bool false), (.bool false), (.bool false), (.bool false), (.bool false), (.bool false), (.bool false), (.bool false), (.bool false), (.bool false), (.bool false), (.bool false), (.bool false), (.bool false), (.bool false), (.bool false), (.bool false), (.bool false), (.bool false), (.bool false), (.bool false), (.bool false), (.bool false), (.bool false), (.bool false), (.bool false), (.bool false), (.bool false), (.bool false), (.bool false), (.bool false), (.bool false), (.bool false), (.bool false), (.bool false), (.bool false), (.bool false), (.bool false), (.bool false), (.bool false), (.bool false), (.bool false), (.bool false), (.bool false), (.bool false), (.bool false), (.bool false), (.bool false), (.bool false), (.bool false), (.bool false), (.bool false), (.bool false), (.bool false), (.bool false), (.bool false), (.bool false), (.bool false), (.bool false), (.bool false), (.bool false), (.bool false), (.bool false), (.bool false), (.bool false), (.bool false), (.bool false), (.bool false), (.bool false), (.bool false), (.bool false), (.bool false), (.bool false), (.bool false), (.bool false), (.bool false), (.bool false), (.bool false), (.bool false), (.bool false), (.bool false), (.bool false), (.bool false), (.bool false), (.bool false), (.bool false), (.bool false), (.bool false), (.bool false), (.bool false), (.bool false), (.bool false), (.bool false), (.bool false), (.bool false), (.bool false), (.bool false), (.bool false), (.bool false), (.bool false), (.bool false), (.bool false), (.bool false), (.bool false), (.bool false), (.bool false), (.bool false), (.bool false), (.bool false), (.bool false), (.bool false), (.bool false), (.bool false), (.bool false), (.bool false), (.bool false), (.bool false), (.bool false), (.bool false), (.bool false), (.bool false), (.bool false), (.bool false), (.bool false), (.bool false), (.bool false), (.bool false), (.bool false), (.bool false), (.bool false), (.bool false), (.bool false), (.bool false), (.bool false), (.bool false), (.bool false)], none, []⟩,
    ⟨(some 3), .mov (.c (.bool false)), none, []⟩] [0, 2])
  (.seq (.seq (.reg false [⟨(some 4), .mov (.c (.int .i64 0)), none, []⟩] [0, 2, 4])
  (.block 0 (.loop [0, 2, 4] f58_l0)))
  (.seq (.reg false [⟨(some 20), .load (some 256) (.t 2), none, []⟩,
    ⟨none, .store true 256 (.t 2) (.t 20), none, []⟩,
    ⟨(some 3), .mov (.c (.bool true)), none, []⟩] [2, 3])
  .ret)))
def f58 : VFn := ⟨1, 21, f58_c, [.c 2 (some 256), .t 3], true, []⟩
/- strings.trimLeftASCII -/
def f59_l0 : VCode :=
  (.seq (.seq (.reg false [⟨(some 5), .mov (.t 0), none, []⟩,
    ⟨(some 6), .lens (.t 5), none, []⟩,
    ⟨(some 7), .bin .gtr (.t 6) (.c (.int .i64 0)), none, []⟩] [0, 1, 7])
  (.cond (.t 7) .skip (.exit 0)))
  (.block 1 (.seq (.seq (.reg false [⟨(some 8), .mov (.t 1), none, []⟩,
    ⟨(some 9), .mov (.t 0), none, []⟩,
    ⟨(some 10), .idxs (.t 9) (.c (.int .i64 0)), none, []⟩,
    ⟨(some 11), .call (.c (.func (.func 69) [] [])) [(.t 8), (.t 10)], none, []⟩,
    ⟨(some 12), .un .not (.t 11), none, []⟩] [0, 1, 12])
  (.cond (.t 12) (.exit 0) .skip))
  (.reg false [⟨(some 13), .mov (.t 0), none, []⟩,
    ⟨(some 14), .slstr (.t 13) (some (.c (.int .i64 1))) none, none, []⟩,
    ⟨(some 0), .mov (.t 14), none, []⟩] [0, 1]))))
def f59_c : VCode :=
  (.seq (.reg false [⟨(some 4), .mov (.c (.str ⟨#[]⟩)), none, []⟩] [0, 1])
  (.seq (.block 0 (.loop [0, 1] f59_l0))
  (.seq (.reg false [⟨(some 15), .mov (.t 0), none, []⟩,
    ⟨(some 4), .mov (.t 15), none, []⟩] [4])
  .ret)))
def f59 : VFn := ⟨2, 16, f59_c, [.t 4], true, []⟩
/- strings.trimRightASCII -/
def f60_l0 : VCode :=
  (.seq (.seq (.reg false [⟨(some 5), .mov (.t 0), none, []⟩,
    ⟨(some 6), .lens (.t 5), none, []⟩,
    ⟨(some 7), .bin .gtr (.t 6) (.c (.int .i64 0)), none, []⟩] [0, 1, 7])
  (.cond (.t 7) .skip (.exit 0)))
  (.block 1 (.seq (.seq (.reg false [⟨(some 8), .mov (.t 1), none, []⟩,
    ⟨(some 9), .mov (.t 0), none, []⟩,
    ⟨(some 10), .mov (.t 0), none, []⟩,
    ⟨(some 11), .lens (.t 10), none, []⟩,
    ⟨(some 12), .bin .sub (.t 11) (.c (.int .i64 1)), none, []⟩,
    ⟨(some 13), .idxs (.t 9) (.t 12), none, []⟩,
    ⟨(some 14), .call (.c (.func (.func 69) [] [])) [(.t 8), (.t 13)], none, []⟩,
    ⟨(some 15), .un .not (.t 14), none, []⟩] [0, 1, 15])
  (.cond (.t 15) (.exit 0) .skip))
  (.reg false [⟨(some 16), .mov (.t 0), none, []⟩,
    ⟨(some 17), .mov (.t 0), none, []⟩,
    ⟨(some 18), .lens (.t 17), none, []⟩,
    ⟨(some 19), .bin .sub (.t 18) (.c (.int .i64 1)), none, []⟩,
    ⟨(some 20), .slstr (.t 16) none (some (.t 19)), none, []⟩,
    ⟨(some 0), .mov (.t 20), none, []⟩] [0, 1]))))
def f60_c : VCode :=
  (.seq (.reg false [⟨(some 4), .mov (.c (.str ⟨#[]⟩)), none, []⟩] [0, 1])
  (.seq (.block 0 (.loop [0, 1] f60_l0))
  (.seq (.reg false [⟨(some 21), .mov (.t 0), none, []⟩,
    ⟨(some 4), .mov (.t 21), none, []⟩] [4])
  .ret)))
def f60 : VFn := ⟨2, 22, f60_c, [.t 4], true, []⟩
/- strings.trimLeftUnicode -/
def f61_l0 : VCode :=
  (.seq (.seq (.reg false [⟨(some 7), .mov (.t 0), none, []⟩,
    ⟨(some 8), .lens (.t 7), none, []⟩,
    ⟨(some 9), .bin .gtr (.t 8) (.c (.int .i64 0)), none, []⟩] [0, 1, 9])
  (.cond (.t 9) .skip (.exit 0)))
  (.block 1 (.seq (.reg false [⟨(some 11), .mov (.t 0), none, []⟩,
    ⟨(some 12), .call (.c (.func (.func 70) [] [])) [(.t 11)], none, []⟩,
    ⟨(some 10), .mov (.t 12), none, []⟩,
    ⟨(some 13), .extract (.t 10) 0, none, []⟩,
    ⟨(some 14), .extract (.t 10) 1, none, []⟩,
    ⟨(some 5), .mov (.t 13), none, []⟩,
    ⟨(some 6), .mov (.t 14), none, []⟩] [0, 1, 5, 6])
  (.seq (.seq (.reg false [⟨(some 15), .mov (.t 1), none, []⟩,
    ⟨(some 16), .mov (.t 5), none, []⟩,
    ⟨(some 17), .call (.c (.func (.func 71) [] [])) [(.t 15), (.t 16)], none, []⟩,
    ⟨(some 18), .un .not (.t 17), none, []⟩] [0, 1, 6, 18])
  (.cond (.t 18) (.exit 0) .skip))
  (.reg false [⟨(some 19), .mov (.t 0), none, []⟩,
    ⟨(some 20), .mov (.t 6), none, []⟩,
    ⟨(some 21), .slstr (.t 19) (some (.t 20)) none, none, []⟩,
    ⟨(some 0), .mov (.t 21), none, []⟩] [0, 1])))))
def f61_c : VCode :=
  (.seq (.reg false [⟨(some 4), .mov (.c (.str ⟨#[]⟩)), none, []⟩] [0, 1])
  (.seq (.block 0 (.loop [0, 1] f61_l0))
  (.seq (.reg false [⟨(some 22), .mov (.t 0), none, []⟩,
    ⟨(some 4), .mov (.t 22), none, []⟩] [4])
  .ret)))
def f61 : VFn := ⟨2, 23, f61_c, [.t 4], true, []⟩
/- strings.trimRightUnicode -/
def f62_l0 : VCode :=
  (.seq (.seq (.reg false [⟨(some 7), .mov (.t 0), none, []⟩,
    ⟨(some 8), .lens (.t 7), none, []⟩,
    ⟨(some 9), .bin .gtr (.t 8) (.c (.int .i64 0)), none, []⟩] [0, 1, 9])
  (.cond (.t 9) .skip (.exit 0)))
  (.block 1 (.seq (.reg false [⟨(some 10), .mov (.t 0), none, []⟩,
    ⟨(some 11), .mov (.t 0), none, []⟩,
    ⟨(some 12), .lens (.t 11), none, []⟩,
    ⟨(some 13), .bin .sub (.t 12) (.c (.int .i64 1)), none, []⟩,
    ⟨(some 14), .idxs (.t 10) (.t 13), none, []⟩,
    ⟨(some 15), .conv (.toInt .i32) (.t 14), none, []⟩,
    ⟨(some 5), .mov (.t 15), none, []⟩,
    ⟨(some 6), .mov (.c (.int .i64 1)), none, []⟩] [0, 1, 5, 6])
  (.seq (.seq (.reg false [⟨(some 16), .mov (.t 5), none, []⟩,
    ⟨(some 17), .bin .geq (.t 16) (.c (.int .i32 128)), none, []⟩] [0, 1, 5, 6, 17])
  (.cond (.t 17) (.reg false [⟨(some 19), .mov (.t 0), none, []⟩,
    ⟨(some 20), .call (.c (.func (.func 72) [] [])) [(.t 19)], none, []⟩,
    ⟨(some 18), .mov (.t 20), none, []⟩,
    ⟨(some 21), .extract (.t 18) 0, none, []⟩,
    ⟨(some 22), .extract (.t 18) 1, none, []⟩,
    ⟨(some 5), .mov (.t 21), none, []⟩,
    ⟨(some 6), .mov (.t 22), none, []⟩] [0, 1, 5, 6]) .skip))
  (.seq (.seq (.reg false [⟨(some 23), .mov (.t 1), none, []⟩,
    ⟨(some 24), .mov (.t 5), none, []⟩,
    ⟨(some 25), .call (.c (.func (.func 71) [] [])) [(.t 23), (.t 24)], none, []⟩,
    ⟨(some 26), .un .not (.t 25), none, []⟩] [0, 1, 6, 26])
  (.cond (.t 26) (.exit 0) .skip))
  (.reg false [⟨(some 27), .mov (.t 0), none, []⟩,
    ⟨(some 28), .mov (.t 0), none, []⟩,
    ⟨(some 29), .lens (.t 28), none, []⟩,
    ⟨(some 30), .mov (.t 6), none, []⟩,
    ⟨(some 31), .bin .sub (.t 29) (.t 30), none, []⟩,
    ⟨(some 32), .slstr (.t 27) none (some (.t 31)), none, []⟩,
    ⟨(some 0), .mov (.t 32), none, []⟩] [0, 1]))))))
def f62_c : VCode :=
  (.seq (.reg false [⟨(some 4), .mov (.c (.str ⟨#[]⟩)), none, []⟩] [0, 1])
  (.seq (.block 0 (.loop [0, 1] f62_l0))
  (.seq (.reg false [⟨(some 33), .mov (.t 0), none, []⟩,
    ⟨(some 4), .mov (.t 33), none, []⟩] [4])
  .ret)))
def f62 : VFn := ⟨2, 34, f62_c, [.t 4], true, []⟩
/- math/bits.Mul64 -/
def f63_c : VCode :=
  (.seq (.reg false [⟨(some 4), .mov (.c (.int .u64 0)), none, []⟩,
    ⟨(some 5), .mov (.c (.int .u64 0)), none, []⟩] [0, 1])
  (.seq (.reg false [⟨(some 14), .mov (.t 0), none, []⟩,
    ⟨(some 15), .bin .and (.t 14) (.c (.int .u64 4294967295)), none, []⟩,
    ⟨(some 6), .mov (.t 15), none, []⟩] [0, 1, 6])
  (.seq (.reg false [⟨(some 16), .mov (.t 0), none, []⟩,
    ⟨(some 17), .bin .shr (.t 16) (.c (.int .u64 32)), none, []⟩,
    ⟨(some 7), .mov (.t 17), none, []⟩] [0, 1, 6, 7])
  (.seq (.reg false [⟨(some 18), .mov (.t 1), none, []⟩,
    ⟨(some 19), .bin .and (.t 18) (.c (.int .u64 4294967295)), none, []⟩,
    ⟨(some 8), .mov (.t 19), none, []⟩] [0, 1, 6, 7, 8])
  (.seq (.reg false [⟨(some 20), .mov (.t 1), none, []⟩,
    ⟨(some 21), .bin .shr (.t 20) (.c (.int .u64 32)), none, []⟩,
    ⟨(some 9), .mov (.t 21), none, []⟩] [0, 1, 6, 7, 8, 9])
  (.seq (.reg false [⟨(some 22), .mov (.t 6), none, []⟩,
    ⟨(some 23), .mov (.t 8), none, []⟩,
    ⟨(some 24), .bin .mul (.t 22) (.t 23), none, []⟩,
    ⟨(some 10), .mov (.t 24), none, []⟩] [0, 1, 6, 7, 8, 9, 10])
  (.seq (.reg false [⟨(some 25), .mov (.t 7), none, []⟩,
    ⟨(some 26), .mov (.t 8), none, []⟩,
    ⟨(some 27), .bin .mul (.t 25) (.t 26), none, []⟩,
    ⟨(some 28), .mov (.t 10), none, []⟩,
    ⟨(some 29), .bin .shr (.t 28) (.c (.int .u64 32)), none, []⟩,
    ⟨(some 30), .bin .add (.t 27) (.t 29), none, []⟩,
    ⟨(some 11), .mov (.t 30), none, []⟩] [0, 1, 6, 7, 9, 11])
  (.seq (.reg false [⟨(some 31), .mov (.t 11), none, []⟩,
    ⟨(some 32), .bin .and (.t 31) (.c (.int .u64 4294967295)), none, []⟩,
    ⟨(some 12), .mov (.t 32), none, []⟩] [0, 1, 6, 7, 9, 11, 12])
  (.seq (.reg false [⟨(some 33), .mov (.t 11), none, []⟩,
    ⟨(some 34), .bin .shr (.t 33) (.c (.int .u64 32)), none, []⟩,
    ⟨(some 13), .mov (.t 34), none, []⟩] [0, 1, 6, 7, 9, 12, 13])
  (.seq (.reg false [⟨(some 35), .mov (.t 12), none, []⟩,
    ⟨(some 36), .mov (.t 6), none, []⟩,
    ⟨(some 37), .mov (.t 9), none, []⟩,
    ⟨(some 38), .bin .mul (.t 36) (.t 37), none, []⟩,
    ⟨(some 39), .bin .add (.t 35) (.t 38), none, []⟩,
    ⟨(some 12), .mov (.t 39), none, []⟩] [0, 1, 7, 9, 12, 13])
  (.seq (.reg false [⟨(some 40), .mov (.t 7), none, []⟩,
    ⟨(some 41), .mov (.t 9), none, []⟩,
    ⟨(some 42), .bin .mul (.t 40) (.t 41), none, []⟩,
    ⟨(some 43), .mov (.t 13), none, []⟩,
    ⟨(some 44), .bin .add (.t 42) (.t 43), none, []⟩,
    ⟨(some 45), .mov (.t 12), none, []⟩,
    ⟨(some 46), .bin .shr (.t 45) (.c (.int .u64 32)), none, []⟩,
    ⟨(some 47), .bin .add (.t 44) (.t 46), none, []⟩,
    ⟨(some 4), .mov (.t 47), none, []⟩] [0, 1, 4])
  (.seq (.reg false [⟨(some 48), .mov (.t 0), none, []⟩,
    ⟨(some 49), .mov (.t 1), none, []⟩,
    ⟨(some 50), .bin .mul (.t 48) (.t 49), none, []⟩,
    ⟨(some 5), .mov (.t 50), none, []⟩] [4, 5])
  .ret))))))))))))
def f63 : VFn := ⟨2, 51, f63_c, [.t 4, .t 5], true, []⟩
/- not lowered: 64 math/bits.Add64: no body -/
/- math/bits.Div64 -/
def f65_l0 : VCode :=
  (.seq (.seq (.reg false [⟨(some 67), .mov (.t 15), none, []⟩,
    ⟨(some 68), .bin .geq (.t 67) (.c (.int .u64 4294967296)), none, []⟩,
    ⟨(some 69), .mov (.t 68), none, []⟩,
    ⟨(some 70), .mov (.t 15), (some (69, false)), []⟩,
    ⟨(some 71), .mov (.t 10), (some (69, false)), []⟩,
    ⟨(some 72), .bin .mul (.t 70) (.t 71), (some (69, false)), []⟩,
    ⟨(some 73), .mov (.t 16), (some (69, false)), []⟩,
    ⟨(some 74), .bin .mul (.c (.int .u64 4294967296)) (.t 73), (some (69, false)), []⟩,
    ⟨(some 75), .mov (.t 13), (some (69, false)), []⟩,
    ⟨(some 76), .bin .add (.t 74) (.t 75), (some (69, false)), []⟩,
    ⟨(some 77), .bin .gtr (.t 72) (.t 76), (some (69, false)), []⟩,
    ⟨(some 78), .pick (.t 69) (.c (.bool true)) (.t 77), none, []⟩] [2, 8, 9, 10, 11, 13, 14, 15, 16, 78])
  (.cond (.t 78) .skip (.exit 0)))
  (.block 1 (.seq (.reg false [⟨(some 79), .mov (.t 15), none, []⟩,
    ⟨(some 80), .bin .sub (.t 79) (.c (.int .u64 1)), none, []⟩,
    ⟨(some 15), .mov (.t 80), none, []⟩] [2, 8, 9, 10, 11, 13, 14, 15, 16])
  (.seq (.reg false [⟨(some 81), .mov (.t 16), none, []⟩,
    ⟨(some 82), .mov (.t 9), none, []⟩,
    ⟨(some 83), .bin .add (.t 81) (.t 82), none, []⟩,
    ⟨(some 16), .mov (.t 83), none, []⟩] [2, 8, 9, 10, 11, 13, 14, 15, 16])
  (.seq (.reg false [⟨(some 84), .mov (.t 16), none, []⟩,
    ⟨(some 85), .bin .geq (.t 84) (.c (.int .u64 4294967296)), none, []⟩] [2, 8, 9, 10, 11, 13, 14, 15, 16, 85])
  (.cond (.t 85) (.exit 0) .skip))))))
def f65_l1 : VCode :=
  (.seq (.seq (.reg false [⟨(some 102), .mov (.t 18), none, []⟩,
    ⟨(some 103), .bin .geq (.t 102) (.c (.int .u64 4294967296)), none, []⟩,
    ⟨(some 104), .mov (.t 103), none, []⟩,
    ⟨(some 105), .mov (.t 18), (some (104, false)), []⟩,
    ⟨(some 106), .mov (.t 10), (some (104, false)), []⟩,
    ⟨(some 107), .bin .mul (.t 105) (.t 106), (some (104, false)), []⟩,
    ⟨(some 108), .mov (.t 16), (some (104, false)), []⟩,
    ⟨(some 109), .bin .mul (.c (.int .u64 4294967296)) (.t 108), (some (104, false)), []⟩,
    ⟨(some 110), .mov (.t 14), (some (104, false)), []⟩,
    ⟨(some 111), .bin .add (.t 109) (.t 110), (some (104, false)), []⟩,
    ⟨(some 112), .bin .gtr (.t 107) (.t 111), (some (104, false)), []⟩,
    ⟨(some 113), .pick (.t 104) (.c (.bool true)) (.t 112), none, []⟩] [2, 8, 9, 10, 14, 15, 16, 17, 18, 113])
  (.cond (.t 113) .skip (.exit 2)))
  (.block 3 (.seq (.reg false [⟨(some 114), .mov (.t 18), none, []⟩,
    ⟨(some 115), .bin .sub (.t 114) (.c (.int .u64 1)), none, []⟩,
    ⟨(some 18), .mov (.t 115), none, []⟩] [2, 8, 9, 10, 14, 15, 16, 17, 18])
  (.seq (.reg false [⟨(some 116), .mov (.t 16), none, []⟩,
    ⟨(some 117), .mov (.t 9), none, []⟩,
    ⟨(some 118), .bin .add (.t 116) (.t 117), none, []⟩,
    ⟨(some 16), .mov (.t 118), none, []⟩] [2, 8, 9, 10, 14, 15, 16, 17, 18])
  (.seq (.reg false [⟨(some 119), .mov (.t 16), none, []⟩,
    ⟨(some 120), .bin .geq (.t 119) (.c (.int .u64 4294967296)), none, []⟩] [2, 8, 9, 10, 14, 15, 16, 17, 18, 120])
  (.cond (.t 120) (.exit 2) .skip))))))
def f65_c : VCode :=
  (.seq (.reg false [⟨(some 6), .mov (.c (.int .u64 0)), none, []⟩,
    ⟨(some 7), .mov (.c (.int .u64 0)), none, []⟩] [0, 1, 2])
  (.seq (.seq (.reg false [⟨(some 19), .mov (.t 2), none, []⟩,
    ⟨(some 20), .bin .eql (.t 19) (.c (.int .u64 0)), none, []⟩] [0, 1, 2, 20])
  (.cond (.t 20) .stuck .skip))
  (.seq (.seq (.reg false [⟨(some 22), .mov (.t 2), none, []⟩,
    ⟨(some 23), .mov (.t 0), none, []⟩,
    ⟨(some 24), .bin .leq (.t 22) (.t 23), none, []⟩] [0, 1, 2, 24])
  (.cond (.t 24) .stuck .skip))
  (.seq (.seq (.reg false [⟨(some 26), .mov (.t 0), none, []⟩,
    ⟨(some 27), .bin .eql (.t 26) (.c (.int .u64 0)), none, []⟩] [0, 1, 2, 27])
  (.cond (.t 27) (.seq (.reg true [⟨(some 28), .mov (.t 1), none, []⟩,
    ⟨(some 29), .mov (.t 2), none, []⟩,
    ⟨(some 30), .bin .quo (.t 28) (.t 29), none, []⟩,
    ⟨(some 31), .mov (.t 1), none, []⟩,
    ⟨(some 32), .mov (.t 2), none, []⟩,
    ⟨(some 33), .bin .rem (.t 31) (.t 32), none, []⟩,
    ⟨(some 6), .mov (.t 30), none, []⟩,
    ⟨(some 7), .mov (.t 33), none, []⟩] [6, 7])
  .ret) .skip))
  (.seq (.reg false [⟨(some 34), .mov (.t 2), none, []⟩,
    ⟨(some 35), .call (.c (.func (.func 73) [] [])) [(.t 34)], none, []⟩,
    ⟨(some 36), .conv (.toInt .u64) (.t 35), none, []⟩,
    ⟨(some 8), .mov (.t 36), none, []⟩] [0, 1, 2, 8])
  (.seq (.reg false [⟨(some 37), .mov (.t 2), none, []⟩,
    ⟨(some 38), .mov (.t 8), none, []⟩,
    ⟨(some 39), .bin .shl (.t 37) (.t 38), none, []⟩,
    ⟨(some 2), .mov (.t 39), none, []⟩] [0, 1, 2, 8])
  (.seq (.reg false [⟨(some 40), .mov (.t 2), none, []⟩,
    ⟨(some 41), .bin .shr (.t 40) (.c (.int .u64 32)), none, []⟩,
    ⟨(some 9), .mov (.t 41), none, []⟩] [0, 1, 2, 8, 9])
  (.seq (.reg false [⟨(some 42), .mov (.t 2), none, []⟩,
    ⟨(some 43), .bin .and (.t 42) (.c (.int .u64 4294967295)), none, []⟩,
    ⟨(some 10), .mov (.t 43), none, []⟩] [0, 1, 2, 8, 9, 10])
  (.seq (.reg false [⟨(some 44), .mov (.t 0), none, []⟩,
    ⟨(some 45), .mov (.t 8), none, []⟩,
    ⟨(some 46), .bin .shl (.t 44) (.t 45), none, []⟩,
    ⟨(some 47), .mov (.t 1), none, []⟩,
    ⟨(some 48), .mov (.t 8), none, []⟩,
    ⟨(some 49), .bin .sub (.c (.int .u64 64)) (.t 48), none, []⟩,
    ⟨(some 50), .bin .shr (.t 47) (.t 49), none, []⟩,
    ⟨(some 51), .bin .or (.t 46) (.t 50), none, []⟩,
    ⟨(some 11), .mov (.t 51), none, []⟩] [1, 2, 8, 9, 10, 11])
  (.seq (.reg false [⟨(some 52), .mov (.t 1), none, []⟩,
    ⟨(some 53), .mov (.t 8), none, []⟩,
    ⟨(some 54), .bin .shl (.t 52) (.t 53), none, []⟩,
    ⟨(some 12), .mov (.t 54), none, []⟩] [2, 8, 9, 10, 11, 12])
  (.seq (.reg false [⟨(some 55), .mov (.t 12), none, []⟩,
    ⟨(some 56), .bin .shr (.t 55) (.c (.int .u64 32)), none, []⟩,
    ⟨(some 13), .mov (.t 56), none, []⟩] [2, 8, 9, 10, 11, 12, 13])
  (.seq (.reg false [⟨(some 57), .mov (.t 12), none, []⟩,
    ⟨(some 58), .bin .and (.t 57) (.c (.int .u64 4294967295)), none, []⟩,
    ⟨(some 14), .mov (.t 58), none, []⟩] [2, 8, 9, 10, 11, 13, 14])
  (.seq (.reg false [⟨(some 59), .mov (.t 11), none, []⟩,
    ⟨(some 60), .mov (.t 9), none, []⟩,
    ⟨(some 61), .bin .quo (.t 59) (.t 60), none, []⟩,
    ⟨(some 15), .mov (.t 61), none, []⟩] [2, 8, 9, 10, 11, 13, 14, 15])
  (.seq (.reg false [⟨(some 62), .mov (.t 11), none, []⟩,
    ⟨(some 63), .mov (.t 15), none, []⟩,
    ⟨(some 64), .mov (.t 9), none, []⟩,
    ⟨(some 65), .bin .mul (.t 63) (.t 64), none, []⟩,
    ⟨(some 66), .bin .sub (.t 62) (.t 65), none, []⟩,
    ⟨(some 16), .mov (.t 66), none, []⟩] [2, 8, 9, 10, 11, 13, 14, 15, 16])
  (.seq (.block 0 (.loop [2, 8, 9, 10, 11, 13, 14, 15, 16] f65_l0))
  (.seq (.reg false [⟨(some 86), .mov (.t 11), none, []⟩,
    ⟨(some 87), .bin .mul (.t 86) (.c (.int .u64 4294967296)), none, []⟩,
    ⟨(some 88), .mov (.t 13), none, []⟩,
    ⟨(some 89), .bin .add (.t 87) (.t 88), none, []⟩,
    ⟨(some 90), .mov (.t 15), none, []⟩,
    ⟨(some 91), .mov (.t 2), none, []⟩,
    ⟨(some 92), .bin .mul (.t 90) (.t 91), none, []⟩,
    ⟨(some 93), .bin .sub (.t 89) (.t 92), none, []⟩,
    ⟨(some 17), .mov (.t 93), none, []⟩] [2, 8, 9, 10, 14, 15, 17])
  (.seq (.reg false [⟨(some 94), .mov (.t 17), none, []⟩,
    ⟨(some 95), .mov (.t 9), none, []⟩,
    ⟨(some 96), .bin .quo (.t 94) (.t 95), none, []⟩,
    ⟨(some 18), .mov (.t 96), none, []⟩] [2, 8, 9, 10, 14, 15, 17, 18])
  (.seq (.reg false [⟨(some 97), .mov (.t 17), none, []⟩,
    ⟨(some 98), .mov (.t 18), none, []⟩,
    ⟨(some 99), .mov (.t 9), none, []⟩,
    ⟨(some 100), .bin .mul (.t 98) (.t 99), none, []⟩,
    ⟨(some 101), .bin .sub (.t 97) (.t 100), none, []⟩,
    ⟨(some 16), .mov (.t 101), none, []⟩] [2, 8, 9, 10, 14, 15, 16, 17, 18])
  (.seq (.block 2 (.loop [2, 8, 9, 10, 14, 15, 16, 17, 18] f65_l1))
  (.seq (.reg false [⟨(some 121), .mov (.t 15), none, []⟩,
    ⟨(some 122), .bin .mul (.t 121) (.c (.int .u64 4294967296)), none, []⟩,
    ⟨(some 123), .mov (.t 18), none, []⟩,
    ⟨(some 124), .bin .add (.t 122) (.t 123), none, []⟩,
    ⟨(some 125), .mov (.t 17), none, []⟩,
    ⟨(some 126), .bin .mul (.t 125) (.c (.int .u64 4294967296)), none, []⟩,
    ⟨(some 127), .mov (.t 14), none, []⟩,
    ⟨(some 128), .bin .add (.t 126) (.t 127), none, []⟩,
    ⟨(some 129), .mov (.t 18), none, []⟩,
    ⟨(some 130), .mov (.t 2), none, []⟩,
    ⟨(some 131), .bin .mul (.t 129) (.t 130), none, []⟩,
    ⟨(some 132), .bin .sub (.t 128) (.t 131), none, []⟩,
    ⟨(some 133), .mov (.t 8), none, []⟩,
    ⟨(some 134), .bin .shr (.t 132) (.t 133), none, []⟩,
    ⟨(some 6), .mov (.t 124), none, []⟩,
    ⟨(some 7), .mov (.t 134), none, []⟩] [6, 7])
  .ret))))))))))))))))))))
def f65 : VFn := ⟨3, 135, f65_c, [.t 6, .t 7], true, []⟩
/- stuck in math/bits.Div64: bits.go:520 load; bits.go:523 load -/
/- caliper/nat.taken -/
def f66_l0 : VCode :=
  (.seq (.seq (.reg false [⟨(some 29), .mov (.t 12), none, []⟩,
    ⟨(some 30), .bin .geq (.t 29) (.c (.int .i64 0)), none, []⟩] [10, 11, 12, 30])
  (.cond (.t 30) .skip (.exit 0)))
  (.seq (.block 1 (.seq (.reg true [⟨(some 33), .mov (.t 10), none, []⟩,
    ⟨(some 34), .mov (.t 12), none, []⟩,
    ⟨(some 35), .iaddr 1 (.t 33) (.t 34), none, []⟩,
    ⟨(some 36), .load none (.t 35), none, []⟩,
    ⟨(some 37), .mov (.t 11), none, []⟩,
    ⟨(some 38), .mov (.t 12), none, []⟩,
    ⟨(some 39), .iaddr 1 (.t 37) (.t 38), none, []⟩,
    ⟨(some 40), .load none (.t 39), none, []⟩,
    ⟨(some 41), .bin .neq (.t 36) (.t 40), none, []⟩] [10, 11, 12, 41])
  (.cond (.t 41) (.seq (.seq (.reg true [⟨(some 42), .mov (.t 10), none, []⟩,
    ⟨(some 43), .mov (.t 12), none, []⟩,
    ⟨(some 44), .iaddr 1 (.t 42) (.t 43), none, []⟩,
    ⟨(some 45), .load none (.t 44), none, []⟩,
    ⟨(some 46), .mov (.t 11), none, []⟩,
    ⟨(some 47), .mov (.t 12), none, []⟩,
    ⟨(some 48), .iaddr 1 (.t 46) (.t 47), none, []⟩,
    ⟨(some 49), .load none (.t 48), none, []⟩,
    ⟨(some 50), .bin .gtr (.t 45) (.t 49), none, []⟩] [10, 11, 50])
  (.cond (.t 50) (.seq (.reg false [⟨(some 8), .mov (.c (.bool false)), none, []⟩] [8])
  .ret) .skip))
  (.exit 0)) .skip)))
  (.reg false [⟨(some 31), .mov (.t 12), none, []⟩,
    ⟨(some 32), .bin .sub (.t 31) (.c (.int .i64 1)), none, []⟩,
    ⟨(some 12), .mov (.t 32), none, []⟩] [10, 11, 12])))
def f66_l1 : VCode :=
  (.seq (.reg false [⟨(some 54), .bin .lss (.t 53) (.t 52), none, []⟩] [10, 11, 13, 52, 53, 54])
  (.seq (.cond (.t 54) .skip (.exit 2))
  (.seq (.block 3 (.seq (.reg false [⟨(some 55), .mov (.t 53), none, []⟩,
    ⟨(some 14), .mov (.t 55), none, []⟩] [10, 11, 13, 14, 52, 53])
  (.seq (.reg false [⟨(some 56), .mov (.t 10), none, []⟩,
    ⟨(some 57), .mov (.t 14), none, []⟩,
    ⟨(some 58), .iaddr 1 (.t 56) (.t 57), none, []⟩,
    ⟨(some 59), .load none (.t 58), none, []⟩,
    ⟨(some 60), .mov (.t 13), none, []⟩,
    ⟨(some 61), .bin .add (.t 59) (.t 60), none, []⟩,
    ⟨(some 15), .mov (.t 61), none, []⟩] [10, 11, 14, 15, 52, 53])
  (.seq (.reg false [⟨(some 13), .mov (.c (.int .u32 0)), none, []⟩] [10, 11, 13, 14, 15, 52, 53])
  (.seq (.seq (.reg false [⟨(some 62), .mov (.t 11), none, []⟩,
    ⟨(some 63), .mov (.t 14), none, []⟩,
    ⟨(some 64), .iaddr 1 (.t 62) (.t 63), none, []⟩,
    ⟨(some 65), .load none (.t 64), none, []⟩,
    ⟨(some 66), .mov (.t 15), none, []⟩,
    ⟨(some 67), .bin .lss (.t 65) (.t 66), none, []⟩] [10, 11, 13, 14, 15, 52, 53, 67])
  (.cond (.t 67) (.seq (.reg false [⟨(some 68), .mov (.t 11), none, []⟩,
    ⟨(some 69), .mov (.t 14), none, []⟩,
    ⟨(some 70), .iaddr 1 (.t 68) (.t 69), none, []⟩,
    ⟨(some 71), .load none (.t 70), none, []⟩,
    ⟨(some 72), .bin .add (.t 71) (.c (.int .u32 1000000000)), none, []⟩,
    ⟨(some 73), .iaddr 1 (.t 68) (.t 69), none, []⟩,
    ⟨none, .store false 1 (.t 73) (.t 72), none, []⟩] [10, 11, 14, 15, 52, 53])
  (.reg false [⟨(some 13), .mov (.c (.int .u32 1)), none, []⟩] [10, 11, 13, 14, 15, 52, 53])) .skip))
  (.reg false [⟨(some 74), .mov (.t 11), none, []⟩,
    ⟨(some 75), .mov (.t 14), none, []⟩,
    ⟨(some 76), .iaddr 1 (.t 74) (.t 75), none, []⟩,
    ⟨(some 77), .load none (.t 76), none, []⟩,
    ⟨(some 78), .mov (.t 15), none, []⟩,
    ⟨(some 79), .bin .sub (.t 77) (.t 78), none, []⟩,
    ⟨(some 80), .iaddr 1 (.t 74) (.t 75), none, []⟩,
    ⟨none, .store false 1 (.t 80) (.t 79), none, []⟩] [10, 11, 13, 52, 53]))))))
  (.reg false [⟨(some 81), .bin .add (.t 53) (.c (.int .i64 1)), none, []⟩,
    ⟨(some 53), .mov (.t 81), none, []⟩] [10, 11, 13, 52, 53]))))
def f66_c : VCode :=
  (.seq (.reg false [⟨(some 8), .mov (.c (.bool false)), none, []⟩] [0, 1, 2, 3])
  (.seq (.reg false [⟨(some 16), .mov (.t 1), none, []⟩,
    ⟨(some 17), .len (.t 16), none, []⟩,
    ⟨(some 9), .mov (.t 17), none, []⟩] [0, 1, 2, 3, 9])
  (.seq (.reg false [⟨(some 18), .mov (.t 1), none, []⟩,
    ⟨(some 19), .mov (.t 3), none, []⟩,
    ⟨(some 20), .call (.c (.func (.func 50) [] [])) [(.t 18), (.t 19)], none, []⟩,
    ⟨(some 10), .mov (.t 20), none, []⟩] [0, 2, 9, 10])
  (.seq (.reg false [⟨(some 21), .mov (.t 0), none, []⟩,
    ⟨(some 22), .mov (.t 2), none, []⟩,
    ⟨(some 23), .mov (.t 2), none, []⟩,
    ⟨(some 24), .mov (.t 9), none, []⟩,
    ⟨(some 25), .bin .add (.t 23) (.t 24), none, []⟩,
    ⟨(some 26), .bin .add (.t 25) (.c (.int .i64 1)), none, []⟩,
    ⟨(some 27), .sl 1 (.t 21) (some (.t 22)) (some (.t 26)) none, none, []⟩,
    ⟨(some 11), .mov (.t 27), none, []⟩] [9, 10, 11])
  (.seq (.seq (.reg false [⟨(some 28), .mov (.t 9), none, []⟩,
    ⟨(some 12), .mov (.t 28), none, []⟩] [10, 11, 12])
  (.block 0 (.loop [10, 11, 12] f66_l0)))
  (.seq (.reg false [⟨(some 13), .mov (.c (.int .u32 0)), none, []⟩] [10, 11, 13])
  (.seq (.seq (.reg false [⟨(some 51), .mov (.t 11), none, []⟩,
    ⟨(some 52), .len (.t 51), none, []⟩,
    ⟨(some 53), .mov (.c (.int .i64 0)), none, []⟩] [10, 11, 13, 52, 53])
  (.block 2 (.loop [10, 11, 13, 52, 53] f66_l1)))
  (.seq (.reg false [⟨(some 8), .mov (.c (.bool true)), none, []⟩] [8])
  .ret))))))))
def f66 : VFn := ⟨4, 82, f66_c, [.t 8], false, [0]⟩
/- cmp.isNaN[int] -/
def f67_c : VCode :=
  (.seq (.reg false [⟨(some 2), .mov (.c (.bool false)), none, []⟩] [0])
  (.seq (.reg false [⟨(some 3), .mov (.t 0), none, []⟩,
    ⟨(some 4), .mov (.t 0), none, []⟩,
    ⟨(some 5), .bin .neq (.t 3) (.t 4), none, []⟩,
    ⟨(some 2), .mov (.t 5), none, []⟩] [2])
  .ret))
def f67 : VFn := ⟨1, 6, f67_c, [.t 2], true, []⟩
/- cmp.isNaN[uint32] -/
def f68_c : VCode :=
  (.seq (.reg false [⟨(some 2), .mov (.c (.bool false)), none, []⟩] [0])
  (.seq (.reg false [⟨(some 3), .mov (.t 0), none, []⟩,
    ⟨(some 4), .mov (.t 0), none, []⟩,
    ⟨(some 5), .bin .neq (.t 3) (.t 4), none, []⟩,
    ⟨(some 2), .mov (.t 5), none, []⟩] [2])
  .ret))
def f68 : VFn := ⟨1, 6, f68_c, [.t 2], true, []⟩
/- (*strings.asciiSet).contains -/
def f69_c : VCode :=
  (.seq (.reg false [⟨(some 4), .mov (.c (.bool false)), none, []⟩] [0, 1])
  (.seq (.reg false [⟨(some 5), .mov (.t 0), none, []⟩,
    ⟨(some 6), .mov (.t 1), none, []⟩,
    ⟨(some 7), .nilck (.t 5), none, []⟩,
    ⟨(some 8), .iaddra 256 1 (.t 7) (.t 6), none, []⟩,
    ⟨(some 9), .load none (.t 8), none, []⟩,
    ⟨(some 4), .mov (.t 9), none, []⟩] [4])
  .ret))
def f69 : VFn := ⟨2, 10, f69_c, [.t 4], true, []⟩
/- unicode/utf8.DecodeRuneInString -/
def f70_c : VCode :=
  (.seq (.reg false [⟨(some 2), .mov (.c (.int .i32 0)), none, []⟩,
    ⟨(some 3), .mov (.c (.int .i64 0)), none, []⟩] [0])
  (.seq (.seq (.reg false [⟨(some 4), .mov (.t 0), none, []⟩,
    ⟨(some 5), .bin .neq (.t 4) (.c (.str ⟨#[]⟩)), none, []⟩,
    ⟨(some 6), .mov (.t 5), none, []⟩,
    ⟨(some 7), .mov (.t 0), (some (6, true)), []⟩,
    ⟨(some 8), .idxs (.t 7) (.c (.int .i64 0)), (some (6, true)), []⟩,
    ⟨(some 9), .bin .lss (.t 8) (.c (.int .u8 128)), (some (6, true)), []⟩,
    ⟨(some 10), .pick (.t 6) (.t 9) (.c (.bool false)), none, []⟩] [0, 10])
  (.cond (.t 10) (.seq (.reg false [⟨(some 11), .mov (.t 0), none, []⟩,
    ⟨(some 12), .idxs (.t 11) (.c (.int .i64 0)), none, []⟩,
    ⟨(some 13), .conv (.toInt .i32) (.t 12), none, []⟩,
    ⟨(some 2), .mov (.t 13), none, []⟩,
    ⟨(some 3), .mov (.c (.int .i64 1)), none, []⟩] [2, 3])
  .ret) (.reg false [⟨(some 15), .mov (.t 0), none, []⟩,
    ⟨(some 16), .call (.c (.func (.func 74) [] [])) [(.t 15)], none, []⟩,
    ⟨(some 14), .mov (.t 16), none, []⟩,
    ⟨(some 17), .extract (.t 14) 0, none, []⟩,
    ⟨(some 18), .extract (.t 14) 1, none, []⟩,
    ⟨(some 2), .mov (.t 17), none, []⟩,
    ⟨(some 3), .mov (.t 18), none, []⟩] [2, 3])))
  .ret))
def f70 : VFn := ⟨1, 19, f70_c, [.t 2, .t 3], true, []⟩
/- strings.ContainsRune -/
def f71_c : VCode :=
  (.seq (.reg false [⟨(some 4), .mov (.c (.bool false)), none, []⟩] [0, 1])
  (.seq (.reg false [⟨(some 5), .mov (.t 0), none, []⟩,
    ⟨(some 6), .mov (.t 1), none, []⟩,
    ⟨(some 7), .call (.c (.func (.func 75) [] [])) [(.t 5), (.t 6)], none, []⟩,
    ⟨(some 8), .bin .geq (.t 7) (.c (.int .i64 0)), none, []⟩,
    ⟨(some 4), .mov (.t 8), none, []⟩] [4])
  .ret))
def f71 : VFn := ⟨2, 9, f71_c, [.t 4], true, []⟩
/- unicode/utf8.DecodeLastRuneInString -/
def f72_l0 : VCode :=
  (.seq (.seq (.reg false [⟨(some 25), .mov (.t 5), none, []⟩,
    ⟨(some 26), .mov (.t 6), none, []⟩,
    ⟨(some 27), .bin .geq (.t 25) (.t 26), none, []⟩] [0, 4, 5, 6, 27])
  (.cond (.t 27) .skip (.exit 0)))
  (.seq (.block 1 (.seq (.reg false [⟨(some 30), .mov (.t 0), none, []⟩,
    ⟨(some 31), .mov (.t 5), none, []⟩,
    ⟨(some 32), .idxs (.t 30) (.t 31), none, []⟩,
    ⟨(some 33), .call (.c (.func (.func 76) [] [])) [(.t 32)], none, []⟩] [0, 4, 5, 6, 33])
  (.cond (.t 33) (.exit 0) .skip)))
  (.reg false [⟨(some 28), .mov (.t 5), none, []⟩,
    ⟨(some 29), .bin .sub (.t 28) (.c (.int .i64 1)), none, []⟩,
    ⟨(some 5), .mov (.t 29), none, []⟩] [0, 4, 5, 6])))
def f72_c : VCode :=
  (.seq (.reg false [⟨(some 2), .mov (.c (.int .i32 0)), none, []⟩,
    ⟨(some 3), .mov (.c (.int .i64 0)), none, []⟩] [0])
  (.seq (.reg false [⟨(some 7), .mov (.t 0), none, []⟩,
    ⟨(some 8), .lens (.t 7), none, []⟩,
    ⟨(some 4), .mov (.t 8), none, []⟩] [0, 4])
  (.seq (.seq (.reg false [⟨(some 9), .mov (.t 4), none, []⟩,
    ⟨(some 10), .bin .eql (.t 9) (.c (.int .i64 0)), none, []⟩] [0, 4, 10])
  (.cond (.t 10) (.seq (.reg false [⟨(some 2), .mov (.c (.int .i32 65533)), none, []⟩,
    ⟨(some 3), .mov (.c (.int .i64 0)), none, []⟩] [2, 3])
  .ret) .skip))
  (.seq (.reg false [⟨(some 11), .mov (.t 4), none, []⟩,
    ⟨(some 12), .bin .sub (.t 11) (.c (.int .i64 1)), none, []⟩,
    ⟨(some 5), .mov (.t 12), none, []⟩] [0, 4, 5])
  (.seq (.reg false [⟨(some 13), .mov (.t 0), none, []⟩,
    ⟨(some 14), .mov (.t 5), none, []⟩,
    ⟨(some 15), .idxs (.t 13) (.t 14), none, []⟩,
    ⟨(some 16), .conv (.toInt .i32) (.t 15), none, []⟩,
    ⟨(some 2), .mov (.t 16), none, []⟩] [0, 2, 4, 5])
  (.seq (.seq (.reg false [⟨(some 17), .mov (.t 2), none, []⟩,
    ⟨(some 18), .bin .lss (.t 17) (.c (.int .i32 128)), none, []⟩] [0, 2, 4, 5, 18])
  (.cond (.t 18) (.seq (.reg false [⟨(some 19), .mov (.t 2), none, []⟩,
    ⟨(some 2), .mov (.t 19), none, []⟩,
    ⟨(some 3), .mov (.c (.int .i64 1)), none, []⟩] [2, 3])
  .ret) .skip))
  (.seq (.reg false [⟨(some 20), .mov (.t 4), none, []⟩,
    ⟨(some 21), .bin .sub (.t 20) (.c (.int .i64 4)), none, []⟩,
    ⟨(some 22), .max [(.t 21), (.c (.int .i64 0))], none, []⟩,
    ⟨(some 6), .mov (.t 22), none, []⟩] [0, 4, 5, 6])
  (.seq (.seq (.reg false [⟨(some 23), .mov (.t 5), none, []⟩,
    ⟨(some 24), .bin .sub (.t 23) (.c (.int .i64 1)), none, []⟩,
    ⟨(some 5), .mov (.t 24), none, []⟩] [0, 4, 5, 6])
  (.block 0 (.loop [0, 4, 5, 6] f72_l0)))
  (.seq (.seq (.reg false [⟨(some 34), .mov (.t 5), none, []⟩,
    ⟨(some 35), .bin .lss (.t 34) (.c (.int .i64 0)), none, []⟩] [0, 4, 5, 35])
  (.cond (.t 35) (.reg false [⟨(some 5), .mov (.c (.int .i64 0)), none, []⟩] [0, 4, 5]) .skip))
  (.seq (.reg false [⟨(some 37), .mov (.t 0), none, []⟩,
    ⟨(some 38), .mov (.t 5), none, []⟩,
    ⟨(some 39), .mov (.t 4), none, []⟩,
    ⟨(some 40), .slstr (.t 37) (some (.t 38)) (some (.t 39)), none, []⟩,
    ⟨(some 41), .call (.c (.func (.func 70) [] [])) [(.t 40)], none, []⟩,
    ⟨(some 36), .mov (.t 41), none, []⟩,
    ⟨(some 42), .extract (.t 36) 0, none, []⟩,
    ⟨(some 43), .extract (.t 36) 1, none, []⟩,
    ⟨(some 2), .mov (.t 42), none, []⟩,
    ⟨(some 3), .mov (.t 43), none, []⟩] [2, 3, 4, 5])
  (.seq (.seq (.reg false [⟨(some 44), .mov (.t 5), none, []⟩,
    ⟨(some 45), .mov (.t 3), none, []⟩,
    ⟨(some 46), .bin .add (.t 44) (.t 45), none, []⟩,
    ⟨(some 47), .mov (.t 4), none, []⟩,
    ⟨(some 48), .bin .neq (.t 46) (.t 47), none, []⟩] [2, 3, 48])
  (.cond (.t 48) (.seq (.reg false [⟨(some 2), .mov (.c (.int .i32 65533)), none, []⟩,
    ⟨(some 3), .mov (.c (.int .i64 1)), none, []⟩] [2, 3])
  .ret) .skip))
  (.seq (.reg false [⟨(some 49), .mov (.t 2), none, []⟩,
    ⟨(some 50), .mov (.t 3), none, []⟩,
    ⟨(some 2), .mov (.t 49), none, []⟩,
    ⟨(some 3), .mov (.t 50), none, []⟩] [2, 3])
  .ret))))))))))))
def f72 : VFn := ⟨1, 51, f72_c, [.t 2, .t 3], true, []⟩
/- math/bits.LeadingZeros64 -/
def f73_c : VCode :=
  (.seq (.reg false [⟨(some 2), .mov (.c (.int .i64 0)), none, []⟩] [0])
  (.seq (.reg false [⟨(some 3), .mov (.t 0), none, []⟩,
    ⟨(some 4), .call (.c (.func (.func 77) [] [])) [(.t 3)], none, []⟩,
    ⟨(some 5), .bin .sub (.c (.int .i64 64)) (.t 4), none, []⟩,
    ⟨(some 2), .mov (.t 5), none, []⟩] [2])
  .ret))
def f73 : VFn := ⟨1, 6, f73_c, [.t 2], true, []⟩
/- unicode/utf8.decodeRuneInStringSlow -/
def f74_c : VCode :=
  (.seq (.reg false [⟨(some 2), .mov (.c (.int .i32 0)), none, []⟩,
    ⟨(some 3), .mov (.c (.int .i64 0)), none, []⟩] [0])
  (.seq (.reg false [⟨(some 13), .mov (.t 0), none, []⟩,
    ⟨(some 14), .lens (.t 13), none, []⟩,
    ⟨(some 4), .mov (.t 14), none, []⟩] [0, 4])
  (.seq (.seq (.reg false [⟨(some 15), .mov (.t 4), none, []⟩,
    ⟨(some 16), .bin .lss (.t 15) (.c (.int .i64 1)), none, []⟩] [0, 4, 16])
  (.cond (.t 16) (.seq (.reg false [⟨(some 2), .mov (.c (.int .i32 65533)), none, []⟩,
    ⟨(some 3), .mov (.c (.int .i64 0)), none, []⟩] [2, 3])
  .ret) .skip))
  (.seq (.reg false [⟨(some 17), .mov (.t 0), none, []⟩,
    ⟨(some 18), .idxs (.t 17) (.c (.int .i64 0)), none, []⟩,
    ⟨(some 5), .mov (.t 18), none, []⟩] [0, 4, 5])
  (.seq .stuck
  (.seq (.seq (.reg false [⟨(some 22), .mov (.t 6), none, []⟩,
    ⟨(some 23), .bin .geq (.t 22) (.c (.int .u8 240)), none, []⟩] [0, 4, 5, 6, 23])
  (.cond (.t 23) (.seq (.reg false [⟨(some 24), .mov (.t 6), none, []⟩,
    ⟨(some 25), .conv (.toInt .i32) (.t 24), none, []⟩,
    ⟨(some 26), .bin .shl (.t 25) (.c (.int .u64 31)), none, []⟩,
    ⟨(some 27), .bin .shr (.t 26) (.c (.int .u64 31)), none, []⟩,
    ⟨(some 7), .mov (.t 27), none, []⟩] [0, 7])
  (.seq (.reg false [⟨(some 28), .mov (.t 0), none, []⟩,
    ⟨(some 29), .idxs (.t 28) (.c (.int .i64 0)), none, []⟩,
    ⟨(some 30), .conv (.toInt .i32) (.t 29), none, []⟩,
    ⟨(some 31), .mov (.t 7), none, []⟩,
    ⟨(some 32), .bin .andNot (.t 30) (.t 31), none, []⟩,
    ⟨(some 33), .mov (.t 7), none, []⟩,
    ⟨(some 34), .bin .and (.c (.int .i32 65533)) (.t 33), none, []⟩,
    ⟨(some 35), .bin .or (.t 32) (.t 34), none, []⟩,
    ⟨(some 2), .mov (.t 35), none, []⟩,
    ⟨(some 3), .mov (.c (.int .i64 1)), none, []⟩] [2, 3])
  .ret)) .skip))
  (.seq (.reg false [⟨(some 36), .mov (.t 6), none, []⟩,
    ⟨(some 37), .bin .and (.t 36) (.c (.int .u8 7)), none, []⟩,
    ⟨(some 38), .conv (.toInt .i64) (.t 37), none, []⟩,
    ⟨(some 8), .mov (.t 38), none, []⟩] [0, 4, 5, 6, 8])
  (.seq .stuck
  (.seq (.seq (.reg false [⟨(some 43), .mov (.t 4), none, []⟩,
    ⟨(some 44), .mov (.t 8), none, []⟩,
    ⟨(some 45), .bin .lss (.t 43) (.t 44), none, []⟩] [0, 5, 8, 9, 45])
  (.cond (.t 45) (.seq (.reg false [⟨(some 2), .mov (.c (.int .i32 65533)), none, []⟩,
    ⟨(some 3), .mov (.c (.int .i64 1)), none, []⟩] [2, 3])
  .ret) .skip))
  (.seq (.reg false [⟨(some 46), .mov (.t 0), none, []⟩,
    ⟨(some 47), .idxs (.t 46) (.c (.int .i64 1)), none, []⟩,
    ⟨(some 10), .mov (.t 47), none, []⟩] [0, 5, 8, 9, 10])
  (.seq (.seq (.reg false [⟨(some 48), .mov (.t 10), none, []⟩,
    ⟨(some 49), .faddr 0 (.t 9), none, []⟩,
    ⟨(some 50), .load none (.t 49), none, []⟩,
    ⟨(some 51), .bin .lss (.t 48) (.t 50), none, []⟩,
    ⟨(some 52), .mov (.t 51), none, []⟩,
    ⟨(some 53), .faddr 1 (.t 9), (some (52, false)), []⟩,
    ⟨(some 54), .load none (.t 53), (some (52, false)), []⟩,
    ⟨(some 55), .mov (.t 10), (some (52, false)), []⟩,
    ⟨(some 56), .bin .lss (.t 54) (.t 55), (some (52, false)), []⟩,
    ⟨(some 57), .pick (.t 52) (.c (.bool true)) (.t 56), none, []⟩] [0, 5, 8, 10, 57])
  (.cond (.t 57) (.seq (.reg false [⟨(some 2), .mov (.c (.int .i32 65533)), none, []⟩,
    ⟨(some 3), .mov (.c (.int .i64 1)), none, []⟩] [2, 3])
  .ret) .skip))
  (.seq (.seq (.reg false [⟨(some 58), .mov (.t 8), none, []⟩,
    ⟨(some 59), .bin .leq (.t 58) (.c (.int .i64 2)), none, []⟩] [0, 5, 8, 10, 59])
  (.cond (.t 59) (.seq (.reg false [⟨(some 60), .mov (.t 5), none, []⟩,
    ⟨(some 61), .bin .and (.t 60) (.c (.int .u8 31)), none, []⟩,
    ⟨(some 62), .conv (.toInt .i32) (.t 61), none, []⟩,
    ⟨(some 63), .bin .shl (.t 62) (.c (.int .u64 6)), none, []⟩,
    ⟨(some 64), .mov (.t 10), none, []⟩,
    ⟨(some 65), .bin .and (.t 64) (.c (.int .u8 63)), none, []⟩,
    ⟨(some 66), .conv (.toInt .i32) (.t 65), none, []⟩,
    ⟨(some 67), .bin .or (.t 63) (.t 66), none, []⟩,
    ⟨(some 2), .mov (.t 67), none, []⟩,
    ⟨(some 3), .mov (.c (.int .i64 2)), none, []⟩] [2, 3])
  .ret) .skip))
  (.seq (.reg false [⟨(some 68), .mov (.t 0), none, []⟩,
    ⟨(some 69), .idxs (.t 68) (.c (.int .i64 2)), none, []⟩,
    ⟨(some 11), .mov (.t 69), none, []⟩] [0, 5, 8, 10, 11])
  (.seq (.seq (.reg false [⟨(some 70), .mov (.t 11), none, []⟩,
    ⟨(some 71), .bin .lss (.t 70) (.c (.int .u8 128)), none, []⟩,
    ⟨(some 72), .mov (.t 71), none, []⟩,
    ⟨(some 73), .mov (.t 11), (some (72, false)), []⟩,
    ⟨(some 74), .bin .lss (.c (.int .u8 191)) (.t 73), (some (72, false)), []⟩,
    ⟨(some 75), .pick (.t 72) (.c (.bool true)) (.t 74), none, []⟩] [0, 5, 8, 10, 11, 75])
  (.cond (.t 75) (.seq (.reg false [⟨(some 2), .mov (.c (.int .i32 65533)), none, []⟩,
    ⟨(some 3), .mov (.c (.int .i64 1)), none, []⟩] [2, 3])
  .ret) .skip))
  (.seq (.seq (.reg false [⟨(some 76), .mov (.t 8), none, []⟩,
    ⟨(some 77), .bin .leq (.t 76) (.c (.int .i64 3)), none, []⟩] [0, 5, 10, 11, 77])
  (.cond (.t 77) (.seq (.reg false [⟨(some 78), .mov (.t 5), none, []⟩,
    ⟨(some 79), .bin .and (.t 78) (.c (.int .u8 15)), none, []⟩,
    ⟨(some 80), .conv (.toInt .i32) (.t 79), none, []⟩,
    ⟨(some 81), .bin .shl (.t 80) (.c (.int .u64 12)), none, []⟩,
    ⟨(some 82), .mov (.t 10), none, []⟩,
    ⟨(some 83), .bin .and (.t 82) (.c (.int .u8 63)), none, []⟩,
    ⟨(some 84), .conv (.toInt .i32) (.t 83), none, []⟩,
    ⟨(some 85), .bin .shl (.t 84) (.c (.int .u64 6)), none, []⟩,
    ⟨(some 86), .bin .or (.t 81) (.t 85), none, []⟩,
    ⟨(some 87), .mov (.t 11), none, []⟩,
    ⟨(some 88), .bin .and (.t 87) (.c (.int .u8 63)), none, []⟩,
    ⟨(some 89), .conv (.toInt .i32) (.t 88), none, []⟩,
    ⟨(some 90), .bin .or (.t 86) (.t 89), none, []⟩,
    ⟨(some 2), .mov (.t 90), none, []⟩,
    ⟨(some 3), .mov (.c (.int .i64 3)), none, []⟩] [2, 3])
  .ret) .skip))
  (.seq (.reg false [⟨(some 91), .mov (.t 0), none, []⟩,
    ⟨(some 92), .idxs (.t 91) (.c (.int .i64 3)), none, []⟩,
    ⟨(some 12), .mov (.t 92), none, []⟩] [5, 10, 11, 12])
  (.seq (.seq (.reg false [⟨(some 93), .mov (.t 12), none, []⟩,
    ⟨(some 94), .bin .lss (.t 93) (.c (.int .u8 128)), none, []⟩,
    ⟨(some 95), .mov (.t 94), none, []⟩,
    ⟨(some 96), .mov (.t 12), (some (95, false)), []⟩,
    ⟨(some 97), .bin .lss (.c (.int .u8 191)) (.t 96), (some (95, false)), []⟩,
    ⟨(some 98), .pick (.t 95) (.c (.bool true)) (.t 97), none, []⟩] [5, 10, 11, 12, 98])
  (.cond (.t 98) (.seq (.reg false [⟨(some 2), .mov (.c (.int .i32 65533)), none, []⟩,
    ⟨(some 3), .mov (.c (.int .i64 1)), none, []⟩] [2, 3])
  .ret) .skip))
  (.seq (.reg false [⟨(some 99), .mov (.t 5), none, []⟩,
    ⟨(some 100), .bin .and (.t 99) (.c (.int .u8 7)), none, []⟩,
    ⟨(some 101), .conv (.toInt .i32) (.t 100), none, []⟩,
    ⟨(some 102), .bin .shl (.t 101) (.c (.int .u64 18)), none, []⟩,
    ⟨(some 103), .mov (.t 10), none, []⟩,
    ⟨(some 104), .bin .and (.t 103) (.c (.int .u8 63)), none, []⟩,
    ⟨(some 105), .conv (.toInt .i32) (.t 104), none, []⟩,
    ⟨(some 106), .bin .shl (.t 105) (.c (.int .u64 12)), none, []⟩,
    ⟨(some 107), .bin .or (.t 102) (.t 106), none, []⟩,
    ⟨(some 108), .mov (.t 11), none, []⟩,
    ⟨(some 109), .bin .and (.t 108) (.c (.int .u8 63)), none, []⟩,
    ⟨(some 110), .conv (.toInt .i32) (.t 109), none, []⟩,
    ⟨(some 111), .bin .shl (.t 110) (.c (.int .u64 6)), none, []⟩,
    ⟨(some 112), .bin .or (.t 107) (.t 111), none, []⟩,
    ⟨(some 113), .mov (.t 12), none, []⟩,
    ⟨(some 114), .bin .and (.t 113) (.c (.int .u8 63)), none, []⟩,
    ⟨(some 115), .conv (.toInt .i32) (.t 114), none, []⟩,
    ⟨(some 116), .bin .or (.t 112) (.t 115), none, []⟩,
    ⟨(some 2), .mov (.t 116), none, []⟩,
    ⟨(some 3), .mov (.c (.int .i64 4)), none, []⟩] [2, 3])
  .ret))))))))))))))))))
def f74 : VFn := ⟨1, 117, f74_c, [.t 2, .t 3], true, []⟩
/- stuck in unicode/utf8.decodeRuneInStringSlow: utf8.go:237 indexAddr; utf8.go:246 indexAddr -/
/- not lowered: 75 strings.IndexRune: scope -/
/- unicode/utf8.RuneStart -/
def f76_c : VCode :=
  (.seq (.reg false [⟨(some 2), .mov (.c (.bool false)), none, []⟩] [0])
  (.seq (.reg false [⟨(some 3), .mov (.t 0), none, []⟩,
    ⟨(some 4), .bin .and (.t 3) (.c (.int .u8 192)), none, []⟩,
    ⟨(some 5), .bin .neq (.t 4) (.c (.int .u8 128)), none, []⟩,
    ⟨(some 2), .mov (.t 5), none, []⟩] [2])
  .ret))
def f76 : VFn := ⟨1, 6, f76_c, [.t 2], true, []⟩
/- math/bits.Len64 -/
def f77_c : VCode :=
  (.seq (.reg false [⟨(some 2), .mov (.c (.int .i64 0)), none, []⟩] [0, 2])
  (.seq (.seq (.reg false [⟨(some 3), .mov (.t 0), none, []⟩,
    ⟨(some 4), .bin .geq (.t 3) (.c (.int .u64 4294967296)), none, []⟩] [0, 2, 4])
  (.cond (.t 4) (.seq (.reg false [⟨(some 5), .mov (.t 0), none, []⟩,
    ⟨(some 6), .bin .shr (.t 5) (.c (.int .u64 32)), none, []⟩,
    ⟨(some 0), .mov (.t 6), none, []⟩] [0])
  (.reg false [⟨(some 2), .mov (.c (.int .i64 32)), none, []⟩] [0, 2])) .skip))
  (.seq (.seq (.reg false [⟨(some 7), .mov (.t 0), none, []⟩,
    ⟨(some 8), .bin .geq (.t 7) (.c (.int .u64 65536)), none, []⟩] [0, 2, 8])
  (.cond (.t 8) (.seq (.reg false [⟨(some 9), .mov (.t 0), none, []⟩,
    ⟨(some 10), .bin .shr (.t 9) (.c (.int .u64 16)), none, []⟩,
    ⟨(some 0), .mov (.t 10), none, []⟩] [0, 2])
  (.reg false [⟨(some 11), .mov (.t 2), none, []⟩,
    ⟨(some 12), .bin .add (.t 11) (.c (.int .i64 16)), none, []⟩,
    ⟨(some 2), .mov (.t 12), none, []⟩] [0, 2])) .skip))
  (.seq (.seq (.reg false [⟨(some 13), .mov (.t 0), none, []⟩,
    ⟨(some 14), .bin .geq (.t 13) (.c (.int .u64 256)), none, []⟩] [0, 2, 14])
  (.cond (.t 14) (.seq (.reg false [⟨(some 15), .mov (.t 0), none, []⟩,
    ⟨(some 16), .bin .shr (.t 15) (.c (.int .u64 8)), none, []⟩,
    ⟨(some 0), .mov (.t 16), none, []⟩] [0, 2])
  (.reg false [⟨(some 17), .mov (.t 2), none, []⟩,
    ⟨(some 18), .bin .add (.t 17) (.c (.int .i64 8)), none, []⟩,
    ⟨(some 2), .mov (.t 18), none, []⟩] [0, 2])) .skip))
  (.seq (.reg false [⟨(some 19), .mov (.t 2), none, []⟩,
    ⟨(some 20), .mov (.t 0), none, []⟩,
    ⟨(some 21), .conv (.toInt .u8) (.t 20), none, []⟩,
    ⟨(some 22), .idxs (.c (.str ⟨#[0, 1, 2, 2, 3, 3, 3, 3, 4, 4, 4, 4, 4, 4, 4, 4, 5, 5, 5, 5, 5, 5, 5, 5, 5, 5, 5, 5, 5, 5, 5, 5, 6, 6, 6, 6, 6, 6, 6, 6, 6, 6, 6, 6, 6, 6, 6, 6, 6, 6, 6, 6, 6, 6, 6, 6, 6, 6, 6, 6, 6, 6, 6, 6, 7, 7, 7, 7, 7, 7, 7, 7, 7, 7, 7, 7, 7, 7, 7, 7, 7, 7, 7, 7, 7, 7, 7, 7, 7, 7, 7, 7, 7, 7, 7, 7, 7, 7, 7, 7, 7, 7, 7, 7, 7, 7, 7, 7, 7, 7, 7, 7, 7, 7, 7, 7, 7, 7, 7, 7, 7, 7, 7, 7, 7, 7, 7, 7, 8, 8, 8, 8, 8, 8, 8, 8, 8, 8, 8, 8, 8, 8, 8, 8, 8, 8, 8, 8, 8, 8, 8, 8, 8, 8, 8, 8, 8, 8, 8, 8, 8, 8, 8, 8, 8, 8, 8, 8, 8, 8, 8, 8, 8, 8, 8, 8, 8, 8, 8, 8, 8, 8, 8, 8, 8, 8, 8, 8, 8, 8, 8, 8, 8, 8, 8, 8, 8, 8, 8, 8, 8, 8, 8, 8, 8, 8, 8, 8, 8, 8, 8, 8, 8, 8, 8, 8, 8, 8, 8, 8, 8, 8, 8, 8, 8, 8, 8, 8, 8, 8, 8, 8, 8, 8, 8, 8, 8, 8, 8, 8, 8, 8, 8, 8, 8, 8, 8, 8, 8, 8, 8, 8, 8, 8, 8, 8]⟩)) (.t 21), none, []⟩,
    ⟨(some 23), .conv (.toInt .i64) (.t 22), none, []⟩,
    ⟨(some 24), .bin .add (.t 19) (.t 23), none, []⟩,
    ⟨(some 2), .mov (.t 24), none, []⟩] [2])
  .ret)))))
def f77 : VFn := ⟨1, 25, f77_c, [.t 2], true, []⟩
/- strings.IndexByte -/
def f78_c : VCode :=
  (.seq (.reg false [⟨(some 4), .mov (.c (.int .i64 0)), none, []⟩] [0, 1])
  (.seq (.reg false [⟨(some 5), .mov (.t 0), none, []⟩,
    ⟨(some 6), .mov (.t 1), none, []⟩,
    ⟨(some 7), .call (.c (.func (.func 82) [] [])) [(.t 5), (.t 6)], none, []⟩,
    ⟨(some 4), .mov (.t 7), none, []⟩] [4])
  .ret))
def f78 : VFn := ⟨2, 8, f78_c, [.t 4], true, []⟩
/- unicode/utf8.ValidRune -/
def f79_c : VCode :=
  (.seq (.reg false [⟨(some 2), .mov (.c (.bool false)), none, []⟩] [0])
  (.seq (.block 0 (.seq (.reg false [⟨(some 4), .mov (.t 0), none, []⟩,
    ⟨(some 5), .bin .leq (.c (.int .i32 0)) (.t 4), none, []⟩,
    ⟨(some 6), .mov (.t 5), none, []⟩,
    ⟨(some 7), .mov (.t 0), (some (6, true)), []⟩,
    ⟨(some 8), .bin .lss (.t 7) (.c (.int .i32 55296)), (some (6, true)), []⟩,
    ⟨(some 9), .pick (.t 6) (.t 8) (.c (.bool false)), none, []⟩,
    ⟨(some 3), .mov (.t 9), none, []⟩] [0, 3])
  (.cond (.t 3) (.seq (.reg false [⟨(some 2), .mov (.c (.bool true)), none, []⟩] [2])
  .ret) (.seq (.reg false [⟨(some 11), .mov (.t 0), none, []⟩,
    ⟨(some 12), .bin .lss (.c (.int .i32 57343)) (.t 11), none, []⟩,
    ⟨(some 13), .mov (.t 12), none, []⟩,
    ⟨(some 14), .mov (.t 0), (some (13, true)), []⟩,
    ⟨(some 15), .bin .leq (.t 14) (.c (.int .i32 1114111)), (some (13, true)), []⟩,
    ⟨(some 16), .pick (.t 13) (.t 15) (.c (.bool false)), none, []⟩,
    ⟨(some 10), .mov (.t 16), none, []⟩] [10])
  (.cond (.t 10) (.seq (.reg false [⟨(some 2), .mov (.c (.bool true)), none, []⟩] [2])
  .ret) .skip)))))
  (.seq (.reg false [⟨(some 2), .mov (.c (.bool false)), none, []⟩] [2])
  .ret)))
def f79 : VFn := ⟨1, 17, f79_c, [.t 2], true, []⟩
/- internal/bytealg.Cutover -/
def f80_c : VCode :=
  (.seq (.reg false [⟨(some 2), .mov (.c (.int .i64 0)), none, []⟩] [0])
  (.seq (.reg false [⟨(some 3), .mov (.t 0), none, []⟩,
    ⟨(some 4), .bin .add (.t 3) (.c (.int .i64 16)), none, []⟩,
    ⟨(some 5), .bin .quo (.t 4) (.c (.int .i64 8)), none, []⟩,
    ⟨(some 2), .mov (.t 5), none, []⟩] [2])
  .ret))
def f80 : VFn := ⟨1, 6, f80_c, [.t 2], true, []⟩
/- not lowered: 81 internal/bytealg.IndexString: no body -/
/- internal/stringslite.IndexByte -/
def f82_c : VCode :=
  (.seq (.reg false [⟨(some 4), .mov (.c (.int .i64 0)), none, []⟩] [0, 1])
  (.seq (.reg false [⟨(some 5), .mov (.t 0), none, []⟩,
    ⟨(some 6), .mov (.t 1), none, []⟩,
    ⟨(some 7), .call (.c (.func (.func 83) [] [])) [(.t 5), (.t 6)], none, []⟩,
    ⟨(some 4), .mov (.t 7), none, []⟩] [4])
  .ret))
def f82 : VFn := ⟨2, 8, f82_c, [.t 4], true, []⟩
/- not lowered: 83 internal/bytealg.IndexByteString: no body -/
/- not lowered: 84 (runtime.boundsError).Error: no body -/
/- not lowered: 85 (runtime.boundsError).RuntimeError: no body -/
/- not lowered: 86 (runtime.errorString).Error: no body -/
/- not lowered: 87 (runtime.errorString).RuntimeError: no body -/
/- not lowered: 88 (runtime.plainError).Error: no body -/
/- not lowered: 89 (runtime.plainError).RuntimeError: no body -/
/- not lowered: 90 (runtime.errorAddressString).Error: no body -/
/- not lowered: 91 (runtime.errorAddressString).RuntimeError: no body -/
/- not lowered: 92 (*runtime.TypeAssertionError).Error: no body -/
/- not lowered: 93 (*runtime.TypeAssertionError).RuntimeError: no body -/
/- not lowered: 94 (*runtime.PanicNilError).Error: no body -/
/- not lowered: 95 (*runtime.PanicNilError).RuntimeError: no body -/
/- not lowered: 96 (*internal/abi.Type).Align: no body -/
/- not lowered: 97 (internal/runtime/maps.unhashableTypeError).Error: no body -/
/- not lowered: 98 (internal/runtime/maps.unhashableTypeError).RuntimeError: no body -/
/- not lowered: 99 (*errors.errorString).Error: no body -/
/- not lowered: 100 (internal/abi.Kind).String: no body -/
/- not lowered: 101 var's door: gosem.cut.vars holds initialisers alone; see the manifest's row cutvarsword (look 11, test files too): no body -/
/- not lowered: 102 var's door: the look of gosem.cut.vars went over the folder that the caller named as the repository's root (look 11): no body -/
/- not lowered: 103 var's door: unicode/utf8.acceptRanges is laid by its own initialiser, plain data (look 11): no body -/
/- not lowered: 104 var's door: unicode/utf8.first is laid by its text alone (pinned 1): no body -/
/- gosem.cut.vars -/
def f105_c : VCode :=
  .stuck
def f105 : VFn := ⟨0, 6, f105_c, [], true, []⟩
/- stuck in gosem.cut.vars: utf8.go:100 store -/

def tab : FuncId → Option VFn := fun f => match f with
  | 2 => some f2
  | 3 => some f3
  | 4 => some f4
  | 5 => some f5
  | 6 => some f6
  | 7 => some f7
  | 8 => some f8
  | 9 => some f9
  | 10 => some f10
  | 11 => some f11
  | 12 => some f12
  | 13 => some f13
  | 14 => some f14
  | 15 => some f15
  | 16 => some f16
  | 17 => some f17
  | 18 => some f18
  | 19 => some f19
  | 20 => some f20
  | 21 => some f21
  | 22 => some f22
  | 23 => some f23
  | 24 => some f24
  | 25 => some f25
  | 26 => some f26
  | 27 => some f27
  | 28 => some f28
  | 29 => some f29
  | 30 => some f30
  | 31 => some f31
  | 32 => some f32
  | 33 => some f33
  | 34 => some f34
  | 35 => some f35
  | 36 => some f36
  | 37 => some f37
  | 38 => some f38
  | 39 => some f39
  | 40 => some f40
  | 41 => some f41
  | 42 => some f42
  | 43 => some f43
  | 44 => some f44
  | 45 => some f45
  | 46 => some f46
  | 47 => some f47
  | 48 => some f48
  | 49 => some f49
  | 50 => some f50
  | 51 => some f51
  | 52 => some f52
  | 53 => some f53
  | 54 => some f54
  | 55 => some f55
  | 56 => some f56
  | 57 => some f57
  | 58 => some f58
  | 59 => some f59
  | 60 => some f60
  | 61 => some f61
  | 62 => some f62
  | 63 => some f63
  | 65 => some f65
  | 66 => some f66
  | 67 => some f67
  | 68 => some f68
  | 69 => some f69
  | 70 => some f70
  | 71 => some f71
  | 72 => some f72
  | 73 => some f73
  | 74 => some f74
  | 76 => some f76
  | 77 => some f77
  | 78 => some f78
  | 79 => some f79
  | 80 => some f80
  | 82 => some f82
  | 105 => some f105
  | _ => none
theorem f2_ok : lowAt Tryd.prog [] true [] 2 = some f2 := by kernel_rfl
theorem f3_ok : lowAt Tryd.prog [] true [] 3 = some f3 := by kernel_rfl
theorem f4_ok : lowAt Tryd.prog [] true [] 4 = some f4 := by kernel_rfl
theorem f5_ok : lowAt Tryd.prog [] true [] 5 = some f5 := by kernel_rfl
theorem f6_ok : lowAt Tryd.prog [] true [] 6 = some f6 := by kernel_rfl
theorem f7_ok : lowAt Tryd.prog [] true [] 7 = some f7 := by kernel_rfl
theorem f8_ok : lowAt Tryd.prog [] true [] 8 = some f8 := by kernel_rfl
theorem f9_ok : lowAt Tryd.prog [] true [] 9 = some f9 := by kernel_rfl
theorem f10_ok : lowAt Tryd.prog [] true [] 10 = some f10 := by kernel_rfl
theorem f11_ok : lowAt Tryd.prog [] true [] 11 = some f11 := by kernel_rfl
theorem f12_ok : lowAt Tryd.prog [] true [] 12 = some f12 := by kernel_rfl
theorem f13_ok : lowAt Tryd.prog [] true [] 13 = some f13 := by kernel_rfl
theorem f14_ok : lowAt Tryd.prog [] true [] 14 = some f14 := by kernel_rfl
theorem f15_ok : lowAt Tryd.prog [] true [] 15 = some f15 := by kernel_rfl
theorem f16_ok : lowAt Tryd.prog [] true [] 16 = some f16 := by kernel_rfl
theorem f17_ok : lowAt Tryd.prog [] true [] 17 = some f17 := by kernel_rfl
theorem f18_ok : lowAt Tryd.prog [] true [] 18 = some f18 := by kernel_rfl
theorem f19_ok : lowAt Tryd.prog [] true [] 19 = some f19 := by kernel_rfl
theorem f20_ok : lowAt Tryd.prog [] true [] 20 = some f20 := by kernel_rfl
theorem f21_ok : lowAt Tryd.prog [] true [] 21 = some f21 := by kernel_rfl
theorem f22_ok : lowAt Tryd.prog [] true [] 22 = some f22 := by kernel_rfl
theorem f23_ok : lowAt Tryd.prog [] true [] 23 = some f23 := by kernel_rfl
theorem f24_ok : lowAt Tryd.prog [] true [] 24 = some f24 := by kernel_rfl
theorem f25_ok : lowAt Tryd.prog [] true [] 25 = some f25 := by kernel_rfl
theorem f26_ok : lowAt Tryd.prog [] true [] 26 = some f26 := by kernel_rfl
theorem f27_ok : lowAt Tryd.prog [] true [] 27 = some f27 := by kernel_rfl
theorem f28_ok : lowAt Tryd.prog [] true [] 28 = some f28 := by kernel_rfl
theorem f29_ok : lowAt Tryd.prog [] true [] 29 = some f29 := by kernel_rfl
theorem f30_ok : lowAt Tryd.prog [] true [] 30 = some f30 := by kernel_rfl
theorem f31_ok : lowAt Tryd.prog [] true [] 31 = some f31 := by kernel_rfl
theorem f32_ok : lowAt Tryd.prog [] true [] 32 = some f32 := by kernel_rfl
theorem f33_ok : lowAt Tryd.prog [] true [] 33 = some f33 := by kernel_rfl
theorem f34_ok : lowAt Tryd.prog [] true [] 34 = some f34 := by kernel_rfl
theorem f35_ok : lowAt Tryd.prog [] true [] 35 = some f35 := by kernel_rfl
theorem f36_ok : lowAt Tryd.prog [] true [] 36 = some f36 := by kernel_rfl
theorem f37_ok : lowAt Tryd.prog [] true [] 37 = some f37 := by kernel_rfl
theorem f38_ok : lowAt Tryd.prog [] true [] 38 = some f38 := by kernel_rfl
theorem f39_ok : lowAt Tryd.prog [] true [] 39 = some f39 := by kernel_rfl
theorem f40_ok : lowAt Tryd.prog [] true [] 40 = some f40 := by kernel_rfl
theorem f41_ok : lowAt Tryd.prog [] true [] 41 = some f41 := by kernel_rfl
theorem f42_ok : lowAt Tryd.prog [] true [] 42 = some f42 := by kernel_rfl
theorem f43_ok : lowAt Tryd.prog [] true [] 43 = some f43 := by kernel_rfl
theorem f44_ok : lowAt Tryd.prog [] true [] 44 = some f44 := by kernel_rfl
theorem f45_ok : lowAt Tryd.prog [] true [] 45 = some f45 := by kernel_rfl
theorem f46_ok : lowAt Tryd.prog [] true [] 46 = some f46 := by kernel_rfl
theorem f47_ok : lowAt Tryd.prog [] true [] 47 = some f47 := by kernel_rfl
theorem f48_ok : lowAt Tryd.prog [] true [] 48 = some f48 := by kernel_rfl
theorem f49_ok : lowAt Tryd.prog [] true [] 49 = some f49 := by kernel_rfl
theorem f50_ok : lowAt Tryd.prog [] true [] 50 = some f50 := by kernel_rfl
theorem f51_ok : lowAt Tryd.prog [] false [0] 51 = some f51 := by kernel_rfl
theorem f52_ok : lowAt Tryd.prog [] true [] 52 = some f52 := by kernel_rfl
theorem f53_ok : lowAt Tryd.prog [] true [] 53 = some f53 := by kernel_rfl
theorem f54_ok : lowAt Tryd.prog [] true [] 54 = some f54 := by kernel_rfl
theorem f55_ok : lowAt Tryd.prog [] true [] 55 = some f55 := by kernel_rfl
theorem f56_ok : lowAt Tryd.prog [] true [] 56 = some f56 := by kernel_rfl
theorem f57_ok : lowAt Tryd.prog [] true [] 57 = some f57 := by kernel_rfl
theorem f58_ok : lowAt Tryd.prog [] true [] 58 = some f58 := by kernel_rfl
theorem f59_ok : lowAt Tryd.prog [] true [] 59 = some f59 := by kernel_rfl
theorem f60_ok : lowAt Tryd.prog [] true [] 60 = some f60 := by kernel_rfl
theorem f61_ok : lowAt Tryd.prog [] true [] 61 = some f61 := by kernel_rfl
theorem f62_ok : lowAt Tryd.prog [] true [] 62 = some f62 := by kernel_rfl
theorem f63_ok : lowAt Tryd.prog [] true [] 63 = some f63 := by kernel_rfl
theorem f65_ok : lowAt Tryd.prog [] true [] 65 = some f65 := by kernel_rfl
theorem f66_ok : lowAt Tryd.prog [] false [0] 66 = some f66 := by kernel_rfl
theorem f67_ok : lowAt Tryd.prog [] true [] 67 = some f67 := by kernel_rfl
theorem f68_ok : lowAt Tryd.prog [] true [] 68 = some f68 := by kernel_rfl
theorem f69_ok : lowAt Tryd.prog [] true [] 69 = some f69 := by kernel_rfl
theorem f70_ok : lowAt Tryd.prog [] true [] 70 = some f70 := by kernel_rfl
theorem f71_ok : lowAt Tryd.prog [] true [] 71 = some f71 := by kernel_rfl
theorem f72_ok : lowAt Tryd.prog [] true [] 72 = some f72 := by kernel_rfl
theorem f73_ok : lowAt Tryd.prog [] true [] 73 = some f73 := by kernel_rfl
theorem f74_ok : lowAt Tryd.prog [] true [] 74 = some f74 := by kernel_rfl
theorem f76_ok : lowAt Tryd.prog [] true [] 76 = some f76 := by kernel_rfl
theorem f77_ok : lowAt Tryd.prog [] true [] 77 = some f77 := by kernel_rfl
theorem f78_ok : lowAt Tryd.prog [] true [] 78 = some f78 := by kernel_rfl
theorem f79_ok : lowAt Tryd.prog [] true [] 79 = some f79 := by kernel_rfl
theorem f80_ok : lowAt Tryd.prog [] true [] 80 = some f80 := by kernel_rfl
theorem f82_ok : lowAt Tryd.prog [] true [] 82 = some f82 := by kernel_rfl
theorem f105_ok : lowAt Tryd.prog [] true [] 105 = some f105 := by kernel_rfl
theorem tab_ok : TableOk Tryd.prog tab := by
  intro f vf h
  unfold tab at h
  split at h
  · cases h; exact lowAt_ok f2_ok
  · cases h; exact lowAt_ok f3_ok
  · cases h; exact lowAt_ok f4_ok
  · cases h; exact lowAt_ok f5_ok
  · cases h; exact lowAt_ok f6_ok
  · cases h; exact lowAt_ok f7_ok
  · cases h; exact lowAt_ok f8_ok
  · cases h; exact lowAt_ok f9_ok
  · cases h; exact lowAt_ok f10_ok
  · cases h; exact lowAt_ok f11_ok
  · cases h; exact lowAt_ok f12_ok
  · cases h; exact lowAt_ok f13_ok
  · cases h; exact lowAt_ok f14_ok
  · cases h; exact lowAt_ok f15_ok
  · cases h; exact lowAt_ok f16_ok
  · cases h; exact lowAt_ok f17_ok
  · cases h; exact lowAt_ok f18_ok
  · cases h; exact lowAt_ok f19_ok
  · cases h; exact lowAt_ok f20_ok
  · cases h; exact lowAt_ok f21_ok
  · cases h; exact lowAt_ok f22_ok
  · cases h; exact lowAt_ok f23_ok
  · cases h; exact lowAt_ok f24_ok
  · cases h; exact lowAt_ok f25_ok
  · cases h; exact lowAt_ok f26_ok
  · cases h; exact lowAt_ok f27_ok
  · cases h; exact lowAt_ok f28_ok
  · cases h; exact lowAt_ok f29_ok
  · cases h; exact lowAt_ok f30_ok
  · cases h; exact lowAt_ok f31_ok
  · cases h; exact lowAt_ok f32_ok
  · cases h; exact lowAt_ok f33_ok
  · cases h; exact lowAt_ok f34_ok
  · cases h; exact lowAt_ok f35_ok
  · cases h; exact lowAt_ok f36_ok
  · cases h; exact lowAt_ok f37_ok
  · cases h; exact lowAt_ok f38_ok
  · cases h; exact lowAt_ok f39_ok
  · cases h; exact lowAt_ok f40_ok
  · cases h; exact lowAt_ok f41_ok
  · cases h; exact lowAt_ok f42_ok
  · cases h; exact lowAt_ok f43_ok
  · cases h; exact lowAt_ok f44_ok
  · cases h; exact lowAt_ok f45_ok
  · cases h; exact lowAt_ok f46_ok
  · cases h; exact lowAt_ok f47_ok
  · cases h; exact lowAt_ok f48_ok
  · cases h; exact lowAt_ok f49_ok
  · cases h; exact lowAt_ok f50_ok
  · cases h; exact lowAt_ok f51_ok
  · cases h; exact lowAt_ok f52_ok
  · cases h; exact lowAt_ok f53_ok
  · cases h; exact lowAt_ok f54_ok
  · cases h; exact lowAt_ok f55_ok
  · cases h; exact lowAt_ok f56_ok
  · cases h; exact lowAt_ok f57_ok
  · cases h; exact lowAt_ok f58_ok
  · cases h; exact lowAt_ok f59_ok
  · cases h; exact lowAt_ok f60_ok
  · cases h; exact lowAt_ok f61_ok
  · cases h; exact lowAt_ok f62_ok
  · cases h; exact lowAt_ok f63_ok
  · cases h; exact lowAt_ok f65_ok
  · cases h; exact lowAt_ok f66_ok
  · cases h; exact lowAt_ok f67_ok
  · cases h; exact lowAt_ok f68_ok
  · cases h; exact lowAt_ok f69_ok
  · cases h; exact lowAt_ok f70_ok
  · cases h; exact lowAt_ok f71_ok
  · cases h; exact lowAt_ok f72_ok
  · cases h; exact lowAt_ok f73_ok
  · cases h; exact lowAt_ok f74_ok
  · cases h; exact lowAt_ok f76_ok
  · cases h; exact lowAt_ok f77_ok
  · cases h; exact lowAt_ok f78_ok
  · cases h; exact lowAt_ok f79_ok
  · cases h; exact lowAt_ok f80_ok
  · cases h; exact lowAt_ok f82_ok
  · cases h; exact lowAt_ok f105_ok
  · cases h
end Go.Proofs.YtlijicnknhopkaaDoor.V
