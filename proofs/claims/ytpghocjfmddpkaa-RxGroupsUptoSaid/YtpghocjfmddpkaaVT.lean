/- The functions of this seat, as the evaluator has them (printed by wip/v/VG.lean). -/
import Derived.Test.YtpghocjfmddpkaaChecked
import Derived.Test.YtpghocjfmddpkaaV26
import Derived.Test.YtpghocjfmddpkaaV35
namespace Go.Proofs.Ytpghocjfmddpkaa.V
open Go
def q (t : Nat) (o : VOp) : VOper := ⟨some t, o, none, []⟩
def cf (f : FuncId) : Opd := .c (.func (.func f) [] [])
def ci (z : Int) : Opd := .c (.int .i64 z)
def v (n : Nat) : Opd := .t n
set_option linter.unusedVariables false
set_option linter.unusedSimpArgs false
set_option linter.unusedSectionVars false
noncomputable def lwF (h : Hints) (z : Bool) (b : List Nat) (f : FuncId) : VFn := match lowAt Try.prog h z b f with
 | some v => v
 | none => ⟨0, 0, .skip, [], z, b⟩
noncomputable def mf (p t : Nat) (f : FuncId) (h : Hints := []) (z : Bool := true) (b : List Nat := []) : VFn := ⟨p, t, (lwF h z b f).code, (lwF h z b f).res, z, b⟩
noncomputable def f5 : VFn := mf 2 145 5
def f6_l0 : VCode :=
 (.seq (.seq (.reg false [(q 11 (.mov (v 5))),
 (q 12 (.mov (v 0))),
 (q 13 (.len (v 12))),
 (q 14 (.bin .lss (v 11) (v 13)))] [0, 1, 5, 14])
 (.cond (v 14) .skip (.exit 0)))
 (.seq (.block 1 (.seq (.reg true [(q 17 (.mov (v 0))),
 (q 18 (.mov (v 5))),
 (q 19 (.iaddr 2 (v 17) (v 18))),
 (q 20 (.load (some 2) (v 19))),
 (q 21 (.mov (v 1))),
 (q 22 (.mov (v 5))),
 (q 23 (.iaddr 2 (v 21) (v 22))),
 (q 24 (.load (some 2) (v 23))),
 (q 25 (.eqs true [.int, .int] (v 20) (v 24)))] [0, 1, 5, 25])
 (.cond (v 25) (.seq (.reg false [(q 4 (.mov (.c (.bool false))))] [4])
 .ret) .skip)))
 (.reg false [(q 15 (.mov (v 5))),
 (q 16 (.bin .add (v 15) (ci 1))),
 (q 5 (.mov (v 16)))] [0, 1, 5])))
def f6_c : VCode :=
 (.seq (.reg false [(q 4 (.mov (.c (.bool false))))] [0, 1])
 (.seq (.seq (.reg false [(q 6 (.mov (v 0))),
 (q 7 (.len (v 6))),
 (q 8 (.mov (v 1))),
 (q 9 (.len (v 8))),
 (q 10 (.bin .neq (v 7) (v 9)))] [0, 1, 10])
 (.cond (v 10) (.seq (.reg false [(q 4 (.mov (.c (.bool false))))] [4])
 .ret) .skip))
 (.seq (.seq (.reg false [(q 5 (.mov (ci 0)))] [0, 1, 5])
 (.block 0 (.loop [0, 1, 5] f6_l0)))
 (.seq (.reg false [(q 4 (.mov (.c (.bool true))))] [4])
 .ret))))
def f6 : VFn := ⟨2, 26, f6_c, [.t 4], true, []⟩
def f7_l0 : VCode :=
 (.seq (.reg false [(q 13 (.bin .lss (v 12) (v 11)))] [3, 10, 11, 12, 13])
 (.seq (.cond (v 13) .skip (.exit 0))
 (.seq (.block 1 (.seq (.reg false [(q 14 (.iaddr 2 (v 10) (v 12))),
 (q 15 (.load (some 2) (v 14))),
 (q 5 (.alloc true [(.int .i64 0), (.int .i64 0)])),
 ⟨none, .store true 2 (v 5) (v 15), none, []⟩] [3, 5, 10, 11, 12])
 (.seq (.reg false [(q 16 (.faddr 0 (v 5))),
 (q 17 (.load none (v 16))),
 (q 18 (.max [(v 17), (ci 0)])),
 (q 19 (.faddr 1 (v 5))),
 (q 20 (.load none (v 19))),
 (q 21 (.min [(v 20), (ci 1114111)])),
 (q 22 (.faddr 0 (v 5))),
 ⟨none, .store false 1 (v 22) (v 18), none, []⟩,
 (q 23 (.faddr 1 (v 5))),
 ⟨none, .store false 1 (v 23) (v 21), none, []⟩] [3, 5, 10, 11, 12])
 (.seq (.reg false [(q 24 (.faddr 0 (v 5))),
 (q 25 (.load none (v 24))),
 (q 26 (.faddr 1 (v 5))),
 (q 27 (.load none (v 26))),
 (q 28 (.bin .leq (v 25) (v 27)))] [3, 5, 10, 11, 12, 28])
 (.cond (v 28) (.reg false [(q 29 (.mov (v 3))),
 (q 30 (.load (some 2) (v 5))),
 (q 31 (.buildRow true 2 1 [(.int .i64 0), (.int .i64 0)] [(0, (v 30))])),
 (q 32 (.append 2 16 (v 29) (v 31))),
 (q 3 (.mov (v 32)))] [3, 10, 11, 12]) .skip)))))
 (.reg false [(q 33 (.bin .add (v 12) (ci 1))),
 (q 12 (.mov (v 33)))] [3, 10, 11, 12]))))
def f7_l1 : VCode :=
 (.seq (.reg false [(q 39 (.bin .lss (v 38) (v 37)))] [6, 36, 37, 38, 39])
 (.seq (.cond (v 39) .skip (.exit 2))
 (.seq (.block 3 (.seq (.reg false [(q 40 (.iaddr 2 (v 36) (v 38))),
 (q 41 (.load (some 2) (v 40))),
 (q 8 (.alloc true [(.int .i64 0), (.int .i64 0)])),
 ⟨none, .store true 2 (v 8) (v 41), none, []⟩] [6, 8, 36, 37, 38])
 (.seq (.seq (.reg false [(q 42 (.mov (v 6))),
 (q 43 (.len (v 42))),
 (q 9 (.mov (v 43)))] [6, 8, 9, 36, 37, 38])
 (.seq (.reg true [(q 44 (.mov (v 9))),
 (q 45 (.bin .gtr (v 44) (ci 0))),
 (q 46 (.mov (v 45))),
 ⟨(some 47), .faddr 0 (v 8), (some (46, true)), []⟩,
 ⟨(some 48), .load none (v 47), (some (46, true)), []⟩,
 ⟨(some 49), .mov (v 6), (some (46, true)), []⟩,
 ⟨(some 50), .mov (v 9), (some (46, true)), []⟩,
 ⟨(some 51), .bin .sub (v 50) (ci 1), (some (46, true)), []⟩,
 ⟨(some 52), .iaddr 2 (v 49) (v 51), (some (46, true)), []⟩,
 ⟨(some 53), .faddr 1 (v 52), (some (46, true)), []⟩,
 ⟨(some 54), .load none (v 53), (some (46, true)), []⟩,
 ⟨(some 55), .bin .add (v 54) (ci 1), (some (46, true)), []⟩,
 ⟨(some 56), .bin .leq (v 48) (v 55), (some (46, true)), []⟩,
 (q 57 (.pick (v 46) (v 56) (.c (.bool false))))] [6, 8, 9, 36, 37, 38, 57])
 (.cond (v 57) (.seq (.reg true [(q 58 (.mov (v 6))),
 (q 59 (.mov (v 9))),
 (q 60 (.bin .sub (v 59) (ci 1))),
 (q 61 (.mov (v 6))),
 (q 62 (.mov (v 9))),
 (q 63 (.bin .sub (v 62) (ci 1))),
 (q 64 (.iaddr 2 (v 61) (v 63))),
 (q 65 (.faddr 1 (v 64))),
 (q 66 (.load none (v 65))),
 (q 67 (.faddr 1 (v 8))),
 (q 68 (.load none (v 67))),
 (q 69 (.max [(v 66), (v 68)])),
 (q 70 (.iaddr 2 (v 58) (v 60))),
 (q 71 (.faddr 1 (v 70))),
 ⟨none, .store false 1 (v 71) (v 69), none, []⟩] [6, 36, 37, 38])
 (.exit 3)) .skip)))
 (.reg false [(q 72 (.mov (v 6))),
 (q 73 (.load (some 2) (v 8))),
 (q 74 (.buildRow true 2 1 [(.int .i64 0), (.int .i64 0)] [(0, (v 73))])),
 (q 75 (.append 2 16 (v 72) (v 74))),
 (q 6 (.mov (v 75)))] [6, 36, 37, 38]))))
 (.reg false [(q 76 (.bin .add (v 38) (ci 1))),
 (q 38 (.mov (v 76)))] [6, 36, 37, 38]))))
def f7_c : VCode :=
 (.seq (.reg false [(q 2 (.nilrow 2))] [0])
 (.seq (.reg false [(q 3 (.nilrow 2))] [0, 3])
 (.seq (.seq (.reg false [(q 10 (.mov (v 0))),
 (q 11 (.len (v 10))),
 (q 12 (.mov (ci 0)))] [3, 10, 11, 12])
 (.block 0 (.loop [3, 10, 11, 12] f7_l0)))
 (.seq (.reg false [(q 34 (.mov (v 3))),
 (q 35 (.call (cf 16) [(v 34), (cf 17)]))] [3])
 (.seq (.reg false [(q 6 (.nilrow 2))] [3, 6])
 (.seq (.seq (.reg false [(q 36 (.mov (v 3))),
 (q 37 (.len (v 36))),
 (q 38 (.mov (ci 0)))] [6, 36, 37, 38])
 (.block 2 (.loop [6, 36, 37, 38] f7_l1)))
 (.seq (.reg false [(q 77 (.mov (v 6))),
 (q 2 (.mov (v 77)))] [2])
 .ret)))))))
def f7 : VFn := ⟨1, 78, f7_c, [.t 2], false, []⟩
def f9_l0 : VCode :=
 (.seq (.reg false [(q 14 (.bin .lss (v 13) (v 12)))] [3, 4, 11, 12, 13, 14])
 (.seq (.cond (v 14) .skip (.exit 0))
 (.seq (.block 1 (.seq (.reg false [(q 15 (.iaddr 2 (v 11) (v 13))),
 (q 16 (.load (some 2) (v 15))),
 (q 6 (.alloc true [(.int .i64 0), (.int .i64 0)])),
 ⟨none, .store true 2 (v 6) (v 16), none, []⟩] [3, 4, 6, 11, 12, 13])
 (.seq (.seq (.reg false [(q 17 (.faddr 0 (v 6))),
 (q 18 (.load none (v 17))),
 (q 19 (.mov (v 4))),
 (q 20 (.bin .gtr (v 18) (v 19)))] [3, 4, 6, 11, 12, 13, 20])
 (.cond (v 20) (.reg false [(q 21 (.mov (v 3))),
 (q 22 (.mov (v 4))),
 (q 23 (.faddr 0 (v 6))),
 (q 24 (.load none (v 23))),
 (q 25 (.bin .sub (v 24) (ci 1))),
 (q 26 (.build [(.int .i64 0), (.int .i64 0)] [(0, 1, (v 22)), (1, 1, (v 25))])),
 (q 27 (.buildRow true 2 1 [(.int .i64 0), (.int .i64 0)] [(0, (v 26))])),
 (q 28 (.append 2 16 (v 21) (v 27))),
 (q 3 (.mov (v 28)))] [3, 6, 11, 12, 13]) .skip))
 (.reg false [(q 29 (.faddr 1 (v 6))),
 (q 30 (.load none (v 29))),
 (q 31 (.bin .add (v 30) (ci 1))),
 (q 4 (.mov (v 31)))] [3, 4, 11, 12, 13]))))
 (.reg false [(q 32 (.bin .add (v 13) (ci 1))),
 (q 13 (.mov (v 32)))] [3, 4, 11, 12, 13]))))
def f9_c : VCode :=
 (.seq (.reg false [(q 2 (.nilrow 2))] [0])
 (.seq (.reg false [(q 3 (.nilrow 2))] [0, 3])
 (.seq (.reg false [(q 4 (.mov (ci 0)))] [0, 3, 4])
 (.seq (.seq (.reg false [(q 7 (.mov (v 0))),
 (q 8 (.call (cf 7) [(v 7)])),
 (q 9 (.build [(.int .i64 0), (.int .i64 0)] [(0, 1, (ci 1114112)), (1, 1, (ci 1114112))])),
 (q 10 (.buildRow true 2 1 [(.int .i64 0), (.int .i64 0)] [(0, (v 9))])),
 (q 11 (.append 2 16 (v 8) (v 10))),
 (q 12 (.len (v 11))),
 (q 13 (.mov (ci 0)))] [3, 4, 11, 12, 13])
 (.block 0 (.loop [3, 4, 11, 12, 13] f9_l0)))
 (.seq (.reg false [(q 33 (.mov (v 3))),
 (q 2 (.mov (v 33)))] [2])
 .ret)))))
def f9 : VFn := ⟨1, 34, f9_c, [.t 2], true, []⟩
noncomputable def f11 : VFn := mf 0 87 11 [(1, (1, (0, 0)))] true []
def d13 : VDef := ⟨[(.reg false [(q 2 (.alloc true [(.int .i64 0), (.sl 0 [] true), (.int .i64 0), (.int .i64 0), (.bool false), (.sl 0 [] true)])),
 (q 3 (.alloc false [(.int .i64 0)]))] [0, 2, 3]),
 (.reg false [(q 8 (.mov (v 0))),
 (q 9 (.conv .strToBytes (v 8))),
 (q 10 (.call (cf 19) [(v 9)])),
 (q 7 (.mov (v 10))),
 (q 11 (.extract (v 7) 0)),
 (q 12 (.extract (v 7) 1)),
 (q 4 (.mov (v 11))),
 (q 5 (.mov (v 12)))] [0, 2, 3, 4, 5]),
 (.seq (.reg false [(q 13 (.mov (v 5))),
 (q 14 (.bin .neq (v 13) (ci 0))),
 (q 15 (.mov (v 14))),
 ⟨(some 16), .mov (v 0), (some (15, false)), []⟩,
 ⟨(some 17), .lens (v 16), (some (15, false)), []⟩,
 ⟨(some 18), .bin .gtr (v 17) (ci 4096), (some (15, false)), []⟩,
 (q 19 (.pick (v 15) (.c (.bool true)) (v 18)))] [2, 3, 4, 19])
 (.cond (v 19) (.seq (.reg false [(q 20 (.build [(.int .i64 0), (.sl 0 [] true), (.int .i64 0), (.int .i64 0), (.bool false), (.sl 0 [] true)] [])),
 ⟨none, .store true 6 (v 2) (v 20), none, []⟩,
 ⟨none, .store false 1 (v 3) (ci 90), none, []⟩] [2, 3])
 .ret) .skip))],
 .mkfunc (.func 20) [] [(v 2), (v 3)], 21,
 (.seq (.reg false [(q 22 (.mov (v 4))),
 (q 23 (.build [(.sl 0 [] true), (.int .i64 0)] [(0, 1, (v 22))])),
 (q 24 (.box true 2 (v 23))),
 (q 6 (.mov (v 24)))] [2, 3, 6])
 (.seq (.reg false [(q 25 (.mov (v 6))),
 (q 26 (.call (cf 21) [(v 25)])),
 ⟨none, .store true 6 (v 2) (v 26), none, []⟩] [2, 3, 6])
 (.seq (.reg false [(q 27 (.mov (v 6))),
 (q 28 (.nilck (v 27))),
 (q 29 (.faddr 0 (v 28))),
 (q 30 (.load none (v 29))),
 (q 31 (.len (v 30))),
 (q 32 (.bin .eql (v 31) (ci 0))),
 (q 33 (.call (cf 22) [(v 32)]))] [2, 3])
 (.seq (.reg false [(q 34 (.load (some 6) (v 2))),
 ⟨none, .store true 6 (v 2) (v 34), none, []⟩,
 ⟨none, .store false 1 (v 3) (ci 0), none, []⟩] [2, 3])
 .ret)))),
 ⟨1, 35, .skip, [.c 2 (some 6), .c 3 none], true, []⟩, 20, 5,
 (.block 0 (.seq (.reg false [(q 7 (.isnil .iface false (v 5)))] [0, 1, 5, 7])
 (.cond (v 7) (.reg false [(q 2 (.mov (v 5)))] []) (.seq (.reg false [(q 8 (.assert 50 (.agg []) (v 5) true)),
 (q 9 (.extract (v 8) 1)),
 (q 10 (.extract (v 8) 0))] [0, 1, 5, 9, 10])
 (.cond (v 9) (.seq (.reg false [(q 3 (.alloc true [])),
 ⟨none, .store true 0 (v 3) (v 10), none, []⟩] [0, 1])
 (.reg false [(q 11 (.build [(.int .i64 0), (.sl 0 [] true), (.int .i64 0), (.int .i64 0), (.bool false), (.sl 0 [] true)] [])),
 ⟨none, .store true 6 (v 0) (v 11), none, []⟩,
 ⟨none, .store false 1 (v 1) (ci 90), none, []⟩] [])) (.seq (.reg false [(q 4 (.mov (v 5)))] [4])
 (.reg false [(q 6 (.mov (v 4))),
 ⟨none, .panic (v 6), none, []⟩] []))))))), ⟨2, 12, .skip, [], true, []⟩⟩
def f14_l0 : VCode :=
 (.seq (.seq (.reg false [(q 5 (.mov (v 4))),
 (q 6 (.mov (v 0))),
 (q 7 (.lens (v 6))),
 (q 8 (.bin .lss (v 5) (v 7)))] [0, 3, 4, 8])
 (.cond (v 8) .skip (.exit 0)))
 (.seq (.block 1 (.seq (.reg false [(q 11 (.mov (v 0))),
 (q 12 (.mov (v 4))),
 (q 13 (.idxs (v 11) (v 12))),
 (q 14 (.bin .eql (v 13) (.c (.int .u8 40))))] [0, 3, 4, 14])
 (.cond (v 14) (.reg false [(q 15 (.mov (v 3))),
 (q 16 (.bin .add (v 15) (ci 1))),
 (q 3 (.mov (v 16)))] [0, 3, 4]) .skip)))
 (.reg false [(q 9 (.mov (v 4))),
 (q 10 (.bin .add (v 9) (ci 1))),
 (q 4 (.mov (v 10)))] [0, 3, 4])))
def f14_c : VCode :=
 (.seq (.reg false [(q 2 (.mov (.c (.bool false))))] [0])
 (.seq (.reg false [(q 3 (.mov (ci 0)))] [0, 3])
 (.seq (.seq (.reg false [(q 4 (.mov (ci 0)))] [0, 3, 4])
 (.block 0 (.loop [0, 3, 4] f14_l0)))
 (.seq (.reg false [(q 17 (.mov (v 3))),
 (q 18 (.bin .gtr (v 17) (ci 190))),
 (q 2 (.mov (v 18)))] [2])
 .ret))))
def f14 : VFn := ⟨1, 19, f14_c, [.t 2], true, []⟩
def f15_l0 : VCode :=
 (.seq (.seq (.reg false [(q 49 (.mov (v 5))),
 (q 50 (.faddr 5 (v 2))),
 (q 51 (.load none (v 50))),
 (q 52 (.len (v 51))),
 (q 53 (.bin .lss (v 49) (v 52)))] [2, 3, 5, 53])
 (.cond (v 53) .skip (.exit 0)))
 (.seq (.block 1 (.seq (.reg true [(q 56 (.faddr 5 (v 2))),
 (q 57 (.load none (v 56))),
 (q 58 (.mov (v 5))),
 (q 59 (.iaddr 6 (v 57) (v 58))),
 (q 60 (.load (some 6) (v 59))),
 (q 61 (.faddr 5 (v 3))),
 (q 62 (.load none (v 61))),
 (q 63 (.mov (v 5))),
 (q 64 (.iaddr 6 (v 62) (v 63))),
 (q 65 (.load (some 6) (v 64))),
 (q 66 (.call (cf 15) [(v 60), (v 65)])),
 (q 67 (.un .not (v 66)))] [2, 3, 5, 67])
 (.cond (v 67) (.seq (.reg false [(q 4 (.mov (.c (.bool false))))] [4])
 .ret) .skip)))
 (.reg false [(q 54 (.mov (v 5))),
 (q 55 (.bin .add (v 54) (ci 1))),
 (q 5 (.mov (v 55)))] [2, 3, 5])))
def f15_c : VCode :=
 (.seq (.reg false [(q 2 (.box true 6 (v 0))),
 (q 3 (.box true 6 (v 1))),
 (q 4 (.mov (.c (.bool false))))] [2, 3])
 (.seq (.seq (.reg false [(q 6 (.faddr 0 (v 2))),
 (q 7 (.load none (v 6))),
 (q 8 (.faddr 0 (v 3))),
 (q 9 (.load none (v 8))),
 (q 10 (.bin .neq (v 7) (v 9))),
 (q 11 (.mov (v 10))),
 ⟨(some 12), .faddr 2 (v 2), (some (11, false)), []⟩,
 ⟨(some 13), .load none (v 12), (some (11, false)), []⟩,
 ⟨(some 14), .faddr 2 (v 3), (some (11, false)), []⟩,
 ⟨(some 15), .load none (v 14), (some (11, false)), []⟩,
 ⟨(some 16), .bin .neq (v 13) (v 15), (some (11, false)), []⟩,
 (q 17 (.pick (v 11) (.c (.bool true)) (v 16))),
 (q 18 (.mov (v 17))),
 ⟨(some 19), .faddr 3 (v 2), (some (18, false)), []⟩,
 ⟨(some 20), .load none (v 19), (some (18, false)), []⟩,
 ⟨(some 21), .faddr 3 (v 3), (some (18, false)), []⟩,
 ⟨(some 22), .load none (v 21), (some (18, false)), []⟩,
 ⟨(some 23), .bin .neq (v 20) (v 22), (some (18, false)), []⟩,
 (q 24 (.pick (v 18) (.c (.bool true)) (v 23))),
 (q 25 (.mov (v 24))),
 ⟨(some 26), .faddr 4 (v 2), (some (25, false)), []⟩,
 ⟨(some 27), .load none (v 26), (some (25, false)), []⟩,
 ⟨(some 28), .faddr 4 (v 3), (some (25, false)), []⟩,
 ⟨(some 29), .load none (v 28), (some (25, false)), []⟩,
 ⟨(some 30), .eqb true (v 27) (v 29), (some (25, false)), []⟩,
 (q 31 (.pick (v 25) (.c (.bool true)) (v 30))),
 (q 32 (.mov (v 31))),
 ⟨(some 33), .faddr 1 (v 2), (some (32, false)), []⟩,
 ⟨(some 34), .load none (v 33), (some (32, false)), []⟩,
 ⟨(some 35), .faddr 1 (v 3), (some (32, false)), []⟩,
 ⟨(some 36), .load none (v 35), (some (32, false)), []⟩,
 ⟨(some 37), .call (cf 6) [(v 34), (v 36)], (some (32, false)), []⟩,
 ⟨(some 38), .un .not (v 37), (some (32, false)), []⟩,
 (q 39 (.pick (v 32) (.c (.bool true)) (v 38))),
 (q 40 (.mov (v 39))),
 ⟨(some 41), .faddr 5 (v 2), (some (40, false)), []⟩,
 ⟨(some 42), .load none (v 41), (some (40, false)), []⟩,
 ⟨(some 43), .len (v 42), (some (40, false)), []⟩,
 ⟨(some 44), .faddr 5 (v 3), (some (40, false)), []⟩,
 ⟨(some 45), .load none (v 44), (some (40, false)), []⟩,
 ⟨(some 46), .len (v 45), (some (40, false)), []⟩,
 ⟨(some 47), .bin .neq (v 43) (v 46), (some (40, false)), []⟩,
 (q 48 (.pick (v 40) (.c (.bool true)) (v 47)))] [2, 3, 48])
 (.cond (v 48) (.seq (.reg false [(q 4 (.mov (.c (.bool false))))] [4])
 .ret) .skip))
 (.seq (.seq (.reg false [(q 5 (.mov (ci 0)))] [2, 3, 5])
 (.block 0 (.loop [2, 3, 5] f15_l0)))
 (.seq (.reg false [(q 4 (.mov (.c (.bool true))))] [4])
 .ret))))
def f15 : VFn := ⟨2, 68, f15_c, [.t 4], true, []⟩
noncomputable def f16 : VFn := mf 2 14 16 [] false [0]
noncomputable def f17 : VFn := mf 2 10 17
noncomputable def f18 : VFn := mf 2 20 18
def f19_l0 : VCode :=
 (.seq (.reg false [(q 19 (.next (v 18))),
 (q 20 (.extract (v 19) 0))] [6, 18, 19, 20])
 (.seq (.cond (v 20) .skip (.exit 0))
 (.block 1 (.seq (.reg false [(q 21 (.extract (v 19) 2)),
 (q 8 (.mov (v 21)))] [6, 8, 18])
 (.reg false [(q 22 (.mov (v 6))),
 (q 23 (.mov (v 8))),
 (q 24 (.conv (.toInt .i64) (v 23))),
 (q 25 (.buildRow false 1 1 [(.int .i64 0)] [(0, (v 24))])),
 (q 26 (.append 1 8 (v 22) (v 25))),
 (q 6 (.mov (v 26)))] [6, 18])))))
def f19_c : VCode :=
 (.seq (.reg false [(q 2 (.nilrow 1)),
 (q 3 (.mov (ci 0)))] [0])
 (.seq (.seq (.reg false [(q 10 (.mov (v 0))),
 (q 11 (.call (cf 26) [(v 10)])),
 (q 9 (.mov (v 11))),
 (q 12 (.extract (v 9) 0)),
 (q 13 (.extract (v 9) 1)),
 (q 4 (.mov (v 12))),
 (q 5 (.mov (v 13)))] [0, 5])
 (.seq (.reg false [(q 14 (.mov (v 5))),
 (q 15 (.un .not (v 14)))] [0, 15])
 (.cond (v 15) (.seq (.reg false [(q 2 (.nilrow 1)),
 (q 3 (.mov (ci 10)))] [2, 3])
 .ret) .skip)))
 (.seq (.reg false [(q 6 (.nilrow 1))] [0, 6])
 (.seq (.seq (.reg false [(q 16 (.mov (v 0))),
 (q 17 (.conv .bytesToStr (v 16))),
 (q 18 (.range (v 17)))] [6, 18])
 (.block 0 (.loop [6, 18] f19_l0)))
 (.seq (.reg false [(q 27 (.mov (v 6))),
 (q 2 (.mov (v 27))),
 (q 3 (.mov (ci 0)))] [2, 3])
 .ret)))))
def f19 : VFn := ⟨1, 28, f19_c, [.t 2, .t 3], true, []⟩
noncomputable def f20 : VFn := mf 2 12 20
def f21_l0 : VCode :=
 (.seq (.seq (.reg false [(q 7 (.mov (v 0))),
 (q 8 (.call (cf 28) [(v 7), (.c (.str ⟨#[124]⟩))]))] [0, 2, 3, 8])
 (.cond (v 8) .skip (.exit 0)))
 (.block 1 (.reg false [(q 9 (.mov (v 3))),
 (q 10 (.mov (v 0))),
 (q 11 (.call (cf 27) [(v 10)])),
 (q 12 (.buildRow true 6 1 [(.int .i64 0), (.sl 0 [] true), (.int .i64 0), (.int .i64 0), (.bool false), (.sl 0 [] true)] [(0, (v 11))])),
 (q 13 (.append 6 80 (v 9) (v 12))),
 (q 3 (.mov (v 13)))] [0, 2, 3])))
def f21_c : VCode :=
 (.seq (.reg false [(q 2 (.alloc true [(.int .i64 0), (.sl 0 [] true), (.int .i64 0), (.int .i64 0), (.bool false), (.sl 0 [] true)]))] [0, 2])
 (.seq (.reg false [(q 4 (.mov (v 0))),
 (q 5 (.call (cf 27) [(v 4)])),
 (q 6 (.buildRow true 6 1 [(.int .i64 0), (.sl 0 [] true), (.int .i64 0), (.int .i64 0), (.bool false), (.sl 0 [] true)] [(0, (v 5))])),
 (q 3 (.mov (v 6)))] [0, 2, 3])
 (.seq (.block 0 (.loop [0, 2, 3] f21_l0))
 (.seq (.reg false [(q 14 (.mov (v 3))),
 (q 15 (.call (cf 29) [(ci 4), (v 14)])),
 ⟨none, .store true 6 (v 2) (v 15), none, []⟩] [2])
 .ret))))
def f21 : VFn := ⟨1, 16, f21_c, [.c 2 (some 6)], true, []⟩
noncomputable def f22 : VFn := mf 1 6 22
noncomputable def f23 : VFn := mf 5 148 23 [] false [0]
noncomputable def f24 : VFn := mf 1 8 24
noncomputable def f25 : VFn := mf 1 6 25
def f26_l0 : VCode :=
 (.seq (.reg false [(q 12 (.bin .lss (v 11) (v 10)))] [0, 4, 5, 6, 9, 10, 11, 12])
 (.seq (.cond (v 12) .skip (.exit 0))
 (.seq (.block 1 (.seq (.reg false [(q 13 (.mov (v 11))),
 (q 14 (.iaddr 1 (v 9) (v 11))),
 (q 15 (.load none (v 14))),
 (q 7 (.mov (v 13))),
 (q 8 (.mov (v 15)))] [0, 4, 5, 6, 7, 8, 9, 10, 11])
 (.seq (.seq (.reg false [(q 16 (.mov (v 4))),
 (q 17 (.bin .eql (v 16) (ci 0)))] [0, 4, 5, 6, 7, 8, 9, 10, 11, 17])
 (.cond (v 17) (.seq (.reg false [(q 19 (.mov (v 8))),
 (q 20 (.call (cf 40) [(v 19)])),
 (q 18 (.mov (v 20))),
 (q 21 (.extract (v 18) 0)),
 (q 22 (.extract (v 18) 1)),
 (q 23 (.extract (v 18) 2)),
 (q 4 (.mov (v 21))),
 (q 5 (.mov (v 22))),
 (q 6 (.mov (v 23)))] [0, 4, 5, 6, 7, 9, 10, 11])
 (.seq (.seq (.reg false [(q 24 (.mov (v 4))),
 (q 25 (.bin .lss (v 24) (ci 0)))] [0, 4, 5, 6, 7, 9, 10, 11, 25])
 (.cond (v 25) (.seq (.reg false [(q 26 (.mov (v 7))),
 (q 2 (.mov (v 26))),
 (q 3 (.mov (.c (.bool false))))] [2, 3])
 .ret) .skip))
 (.exit 1))) .skip))
 (.seq (.seq (.reg false [(q 27 (.mov (v 8))),
 (q 28 (.mov (v 5))),
 (q 29 (.bin .lss (v 27) (v 28))),
 (q 30 (.mov (v 29))),
 ⟨(some 31), .mov (v 8), (some (30, false)), []⟩,
 ⟨(some 32), .mov (v 6), (some (30, false)), []⟩,
 ⟨(some 33), .bin .gtr (v 31) (v 32), (some (30, false)), []⟩,
 (q 34 (.pick (v 30) (.c (.bool true)) (v 33)))] [0, 4, 7, 9, 10, 11, 34])
 (.cond (v 34) (.seq (.reg false [(q 35 (.mov (v 7))),
 (q 2 (.mov (v 35))),
 (q 3 (.mov (.c (.bool false))))] [2, 3])
 .ret) .skip))
 (.seq (.reg false [(q 36 (.mov (v 4))),
 (q 37 (.bin .sub (v 36) (ci 1))),
 (q 4 (.mov (v 37)))] [0, 4, 9, 10, 11])
 (.reg false [(q 5 (.mov (.c (.int .u8 128)))),
 (q 6 (.mov (.c (.int .u8 191))))] [0, 4, 5, 6, 9, 10, 11]))))))
 (.reg false [(q 38 (.bin .add (v 11) (ci 1))),
 (q 11 (.mov (v 38)))] [0, 4, 5, 6, 9, 10, 11]))))
def f26_c : VCode :=
 (.seq (.reg false [(q 2 (.mov (ci 0))),
 (q 3 (.mov (.c (.bool false))))] [0])
 (.seq (.reg false [(q 4 (.mov (ci 0)))] [0, 4])
 (.seq (.reg false [(q 5 (.mov (.c (.int .u8 128)))),
 (q 6 (.mov (.c (.int .u8 191))))] [0, 4, 5, 6])
 (.seq (.seq (.reg false [(q 9 (.mov (v 0))),
 (q 10 (.len (v 9))),
 (q 11 (.mov (ci 0)))] [0, 4, 5, 6, 9, 10, 11])
 (.block 0 (.loop [0, 4, 5, 6, 9, 10, 11] f26_l0)))
 (.seq (.reg false [(q 39 (.mov (v 0))),
 (q 40 (.len (v 39))),
 (q 41 (.mov (v 4))),
 (q 42 (.bin .eql (v 41) (ci 0))),
 (q 2 (.mov (v 40))),
 (q 3 (.mov (v 42)))] [2, 3])
 .ret)))))
def f26 : VFn := ⟨1, 43, f26_c, [.t 2, .t 3], true, []⟩
def f27_l0 : VCode :=
 (.seq (.seq (.reg false [(q 4 (.mov (v 0))),
 (q 5 (.nilck (v 4))),
 (q 6 (.faddr 0 (v 5))),
 (q 7 (.load none (v 6))),
 (q 8 (.len (v 7))),
 (q 9 (.bin .gtr (v 8) (ci 0))),
 (q 10 (.mov (v 9))),
 ⟨(some 11), .mov (v 0), (some (10, true)), []⟩,
 ⟨(some 12), .call (cf 42) [(v 11)], (some (10, true)), []⟩,
 ⟨(some 13), .call (cf 41) [(v 12), (.c (.str ⟨#[124, 41]⟩))], (some (10, true)), []⟩,
 ⟨(some 14), .un .not (v 13), (some (10, true)), []⟩,
 (q 15 (.pick (v 10) (v 14) (.c (.bool false))))] [0, 2, 3, 15])
 (.cond (v 15) .skip (.exit 0)))
 (.block 1 (.reg false [(q 16 (.mov (v 3))),
 (q 17 (.mov (v 0))),
 (q 18 (.call (cf 43) [(v 17)])),
 (q 19 (.buildRow true 6 1 [(.int .i64 0), (.sl 0 [] true), (.int .i64 0), (.int .i64 0), (.bool false), (.sl 0 [] true)] [(0, (v 18))])),
 (q 20 (.append 6 80 (v 16) (v 19))),
 (q 3 (.mov (v 20)))] [0, 2, 3])))
def f27_c : VCode :=
 (.seq (.reg false [(q 2 (.alloc true [(.int .i64 0), (.sl 0 [] true), (.int .i64 0), (.int .i64 0), (.bool false), (.sl 0 [] true)]))] [0, 2])
 (.seq (.reg false [(q 3 (.nilrow 6))] [0, 2, 3])
 (.seq (.block 0 (.loop [0, 2, 3] f27_l0))
 (.seq (.reg false [(q 21 (.mov (v 3))),
 (q 22 (.call (cf 29) [(ci 3), (v 21)])),
 ⟨none, .store true 6 (v 2) (v 22), none, []⟩] [2])
 .ret))))
def f27 : VFn := ⟨1, 23, f27_c, [.c 2 (some 6)], true, []⟩
def f28_l0 : VCode :=
 (.seq (.reg false [(q 19 (.bin .lss (v 18) (v 17)))] [0, 1, 16, 17, 18, 19])
 (.seq (.cond (v 19) .skip (.exit 0))
 (.seq (.block 1 (.seq (.reg false [(q 20 (.mov (v 18))),
 (q 21 (.iaddr 1 (v 16) (v 18))),
 (q 22 (.load none (v 21))),
 (q 5 (.mov (v 20))),
 (q 6 (.mov (v 22)))] [0, 1, 5, 6, 16, 17, 18])
 (.seq (.reg false [(q 23 (.mov (v 0))),
 (q 24 (.nilck (v 23))),
 (q 25 (.faddr 0 (v 24))),
 (q 26 (.load none (v 25))),
 (q 27 (.mov (v 5))),
 (q 28 (.iaddr 1 (v 26) (v 27))),
 (q 29 (.load none (v 28))),
 (q 30 (.mov (v 6))),
 (q 31 (.conv (.toInt .i64) (v 30))),
 (q 32 (.bin .neq (v 29) (v 31)))] [0, 1, 16, 17, 18, 32])
 (.cond (v 32) (.seq (.reg false [(q 4 (.mov (.c (.bool false))))] [4])
 .ret) .skip))))
 (.reg false [(q 33 (.bin .add (v 18) (ci 1))),
 (q 18 (.mov (v 33)))] [0, 1, 16, 17, 18]))))
def f28_c : VCode :=
 (.seq (.reg false [(q 4 (.mov (.c (.bool false))))] [0, 1])
 (.seq (.seq (.reg false [(q 7 (.mov (v 0))),
 (q 8 (.nilck (v 7))),
 (q 9 (.faddr 0 (v 8))),
 (q 10 (.load none (v 9))),
 (q 11 (.len (v 10))),
 (q 12 (.mov (v 1))),
 (q 13 (.lens (v 12))),
 (q 14 (.bin .lss (v 11) (v 13)))] [0, 1, 14])
 (.cond (v 14) (.seq (.reg false [(q 4 (.mov (.c (.bool false))))] [4])
 .ret) .skip))
 (.seq (.seq (.reg false [(q 15 (.mov (v 1))),
 (q 16 (.conv .strToBytes (v 15))),
 (q 17 (.len (v 16))),
 (q 18 (.mov (ci 0)))] [0, 1, 16, 17, 18])
 (.block 0 (.loop [0, 1, 16, 17, 18] f28_l0)))
 (.seq (.reg false [(q 34 (.mov (v 0))),
 (q 35 (.mov (v 0))),
 (q 36 (.nilck (v 35))),
 (q 37 (.faddr 0 (v 36))),
 (q 38 (.load none (v 37))),
 (q 39 (.mov (v 1))),
 (q 40 (.lens (v 39))),
 (q 41 (.sl 1 (v 38) (some (v 40)) none none)),
 (q 42 (.nilck (v 34))),
 (q 43 (.faddr 0 (v 42))),
 ⟨none, .store false 1 (v 43) (v 41), none, []⟩] [])
 (.seq (.reg false [(q 4 (.mov (.c (.bool true))))] [4])
 .ret)))))
def f28 : VFn := ⟨2, 44, f28_c, [.t 4], true, []⟩
noncomputable def f29 : VFn := mf 2 18 29
noncomputable def f30 : VFn := mf 4 53 30 [] false [0]
noncomputable def f31 : VFn := mf 4 60 31 [] false [0]
noncomputable def f32 : VFn := mf 4 67 32 [] false [0]
noncomputable def f33 : VFn := mf 4 63 33 [] false [0]
noncomputable def f34 : VFn := mf 4 34 34 [] false [0]
noncomputable def f35 : VFn := mf 4 141 35 [] false [0]
noncomputable def f36 : VFn := mf 5 90 36 [] false [0]
noncomputable def f37 : VFn := mf 5 178 37 [] false [0]
noncomputable def f38 : VFn := mf 1 19 38
noncomputable def f39 : VFn := mf 1 25 39
noncomputable def f40 : VFn := mf 1 33 40
noncomputable def f41 : VFn := mf 2 18 41
noncomputable def f42 : VFn := mf 1 15 42
noncomputable def f43 : VFn := mf 1 41 43
noncomputable def f44 : VFn := mf 5 82 44 [] false [0]
noncomputable def f45 : VFn := mf 1 7 45
noncomputable def f46 : VFn := mf 1 33 46
noncomputable def f47 : VFn := mf 4 18 47 [] false [0]
noncomputable def f48 : VFn := mf 6 41 48 [] false [0]
noncomputable def f49 : VFn := mf 2 8 49
noncomputable def f50 : VFn := mf 1 76 50
noncomputable def f51 : VFn := mf 1 45 51
noncomputable def f52 : VFn := mf 5 32 52 [] false [0]
noncomputable def f53 : VFn := mf 2 8 53
noncomputable def f54 : VFn := mf 1 5 54
def f55_l0 : VCode :=
 (.seq (.seq (.reg false [(q 5 (.mov (v 4))),
 (q 6 (.bin .add (v 5) (ci 1))),
 (q 7 (.mov (v 0))),
 (q 8 (.len (v 7))),
 (q 9 (.bin .lss (v 6) (v 8)))] [0, 3, 4, 9])
 (.cond (v 9) .skip (.exit 0)))
 (.seq (.block 1 (.reg true [(q 12 (.mov (v 3))),
 (q 13 (.mov (v 0))),
 (q 14 (.mov (v 4))),
 (q 15 (.iaddr 1 (v 13) (v 14))),
 (q 16 (.load none (v 15))),
 (q 17 (.mov (v 0))),
 (q 18 (.mov (v 4))),
 (q 19 (.bin .add (v 18) (ci 1))),
 (q 20 (.iaddr 1 (v 17) (v 19))),
 (q 21 (.load none (v 20))),
 (q 22 (.build [(.int .i64 0), (.int .i64 0)] [(0, 1, (v 16)), (1, 1, (v 21))])),
 (q 23 (.buildRow true 2 1 [(.int .i64 0), (.int .i64 0)] [(0, (v 22))])),
 (q 24 (.append 2 16 (v 12) (v 23))),
 (q 3 (.mov (v 24)))] [0, 3, 4]))
 (.reg false [(q 10 (.mov (v 4))),
 (q 11 (.bin .add (v 10) (ci 2))),
 (q 4 (.mov (v 11)))] [0, 3, 4])))
def f55_c : VCode :=
 (.seq (.reg false [(q 2 (.nilrow 2))] [0])
 (.seq (.reg false [(q 3 (.nilrow 2))] [0, 3])
 (.seq (.seq (.reg false [(q 4 (.mov (ci 0)))] [0, 3, 4])
 (.block 0 (.loop [0, 3, 4] f55_l0)))
 (.seq (.reg false [(q 25 (.mov (v 3))),
 (q 2 (.mov (v 25)))] [2])
 .ret))))
def f55 : VFn := ⟨1, 26, f55_c, [.t 2], true, []⟩
def f56_l0 : VCode :=
 (.seq (.seq (.reg false [(q 11 (.mov (v 0))),
 (q 12 (.call (cf 28) [(v 11), (.c (.str ⟨#[93]⟩))])),
 (q 13 (.un .not (v 12)))] [0, 3, 4, 13])
 (.cond (v 13) .skip (.exit 0)))
 (.block 1 (.seq (.reg false [(q 15 (.mov (v 0))),
 (q 16 (.call (cf 61) [(v 15)])),
 (q 14 (.mov (v 16))),
 (q 17 (.extract (v 14) 0)),
 (q 18 (.extract (v 14) 1)),
 (q 5 (.mov (v 17))),
 (q 6 (.mov (v 18)))] [0, 3, 4, 5, 6])
 (.seq (.seq (.reg false [(q 19 (.mov (v 0))),
 (q 20 (.call (cf 42) [(v 19)])),
 (q 21 (.bin .eql (v 20) (ci 45))),
 (q 22 (.mov (v 21))),
 ⟨(some 23), .mov (v 0), (some (22, true)), []⟩,
 ⟨(some 24), .nilck (v 23), (some (22, true)), []⟩,
 ⟨(some 25), .faddr 0 (v 24), (some (22, true)), []⟩,
 ⟨(some 26), .load none (v 25), (some (22, true)), []⟩,
 ⟨(some 27), .len (v 26), (some (22, true)), []⟩,
 ⟨(some 28), .bin .gtr (v 27) (ci 1), (some (22, true)), []⟩,
 ⟨(some 29), .mov (v 28), (some (22, true)), []⟩,
 ⟨(some 30), .mov (v 0), (some (29, true)), []⟩,
 ⟨(some 31), .nilck (v 30), (some (29, true)), []⟩,
 ⟨(some 32), .faddr 0 (v 31), (some (29, true)), []⟩,
 ⟨(some 33), .load none (v 32), (some (29, true)), []⟩,
 ⟨(some 34), .iaddr 1 (v 33) (ci 1), (some (29, true)), []⟩,
 ⟨(some 35), .load none (v 34), (some (29, true)), []⟩,
 ⟨(some 36), .bin .eql (v 35) (ci 93), (some (29, true)), []⟩,
 ⟨(some 37), .pick (v 29) (v 36) (.c (.bool false)), (some (22, true)), []⟩,
 ⟨(some 38), .un .not (v 37), (some (22, true)), []⟩,
 (q 39 (.pick (v 22) (v 38) (.c (.bool false))))] [0, 3, 4, 5, 6, 39])
 (.cond (v 39) (.seq (.reg false [(q 40 (.mov (v 0))),
 (q 41 (.call (cf 58) [(v 40)]))] [0, 3, 4, 5, 6])
 (.seq (.reg false [(q 43 (.mov (v 0))),
 (q 44 (.call (cf 61) [(v 43)])),
 (q 42 (.mov (v 44))),
 (q 45 (.extract (v 42) 0)),
 (q 46 (.extract (v 42) 1)),
 (q 7 (.mov (v 45))),
 (q 8 (.mov (v 46)))] [0, 3, 4, 5, 6, 7, 8])
 (.seq (.seq (.reg true [(q 47 (.mov (v 6))),
 (q 48 (.un .not (v 47))),
 (q 49 (.mov (v 48))),
 ⟨(some 50), .mov (v 8), (some (49, true)), []⟩,
 ⟨(some 51), .un .not (v 50), (some (49, true)), []⟩,
 (q 52 (.pick (v 49) (v 51) (.c (.bool false)))),
 (q 53 (.mov (v 52))),
 ⟨(some 54), .mov (v 5), (some (53, true)), []⟩,
 ⟨(some 55), .iaddr 2 (v 54) (ci 0), (some (53, true)), []⟩,
 ⟨(some 56), .faddr 0 (v 55), (some (53, true)), []⟩,
 ⟨(some 57), .load none (v 56), (some (53, true)), []⟩,
 ⟨(some 58), .mov (v 7), (some (53, true)), []⟩,
 ⟨(some 59), .iaddr 2 (v 58) (ci 0), (some (53, true)), []⟩,
 ⟨(some 60), .faddr 0 (v 59), (some (53, true)), []⟩,
 ⟨(some 61), .load none (v 60), (some (53, true)), []⟩,
 ⟨(some 62), .bin .leq (v 57) (v 61), (some (53, true)), []⟩,
 (q 63 (.pick (v 53) (v 62) (.c (.bool false))))] [0, 3, 4, 5, 7, 63])
 (.reg false [(q 64 (.call (cf 22) [(v 63)]))] [0, 3, 4, 5, 7]))
 (.reg true [(q 65 (.mov (v 5))),
 (q 66 (.iaddr 2 (v 65) (ci 0))),
 (q 67 (.faddr 0 (v 66))),
 (q 68 (.load none (v 67))),
 (q 69 (.mov (v 7))),
 (q 70 (.iaddr 2 (v 69) (ci 0))),
 (q 71 (.faddr 0 (v 70))),
 (q 72 (.load none (v 71))),
 (q 73 (.buildRow false 1 2 [(.int .i64 0)] [(0, (v 68)), (1, (v 72))])),
 (q 74 (.call (cf 55) [(v 73)])),
 (q 5 (.mov (v 74)))] [0, 3, 4, 5])))) .skip))
 (.reg false [(q 75 (.mov (v 4))),
 (q 76 (.mov (v 5))),
 (q 77 (.append 2 16 (v 75) (v 76))),
 (q 4 (.mov (v 77)))] [0, 3, 4])))))
def f56_c : VCode :=
 (.seq (.reg false [(q 2 (.nilrow 2))] [0])
 (.seq (.reg false [(q 9 (.mov (v 0))),
 (q 10 (.call (cf 28) [(v 9), (.c (.str ⟨#[94]⟩))])),
 (q 3 (.mov (v 10)))] [0, 3])
 (.seq (.reg false [(q 4 (.nilrow 2))] [0, 3, 4])
 (.seq (.block 0 (.loop [0, 3, 4] f56_l0))
 (.seq (.seq (.reg false [(q 78 (.mov (v 3)))] [4, 78])
 (.cond (v 78) (.seq (.reg false [(q 79 (.mov (v 4))),
 (q 80 (.call (cf 9) [(v 79)])),
 (q 2 (.mov (v 80)))] [2])
 .ret) .skip))
 (.seq (.reg false [(q 81 (.mov (v 4))),
 (q 82 (.call (cf 7) [(v 81)])),
 (q 2 (.mov (v 82)))] [2])
 .ret))))))
def f56 : VFn := ⟨1, 83, f56_c, [.t 2], true, []⟩
noncomputable def f57 : VFn := mf 1 67 57
noncomputable def f58 : VFn := mf 1 26 58
def f59_l0 : VCode :=
 (.seq (.seq (.reg false [(q 16 (.mov (v 5))),
 (q 17 (.bin .geq (v 16) (ci 48))),
 (q 18 (.mov (v 17))),
 ⟨(some 19), .mov (v 5), (some (18, true)), []⟩,
 ⟨(some 20), .bin .leq (v 19) (ci 57), (some (18, true)), []⟩,
 (q 21 (.pick (v 18) (v 20) (.c (.bool false))))] [0, 4, 5, 21])
 (.cond (v 21) .skip (.exit 0)))
 (.seq (.block 1 (.seq (.reg false [(q 24 (.mov (v 4))),
 (q 25 (.bin .mul (v 24) (ci 10))),
 (q 26 (.mov (v 5))),
 (q 27 (.bin .add (v 25) (v 26))),
 (q 28 (.bin .sub (v 27) (ci 48))),
 (q 4 (.mov (v 28)))] [0, 4])
 (.seq (.reg false [(q 29 (.mov (v 4))),
 (q 30 (.bin .leq (v 29) (ci 1000))),
 (q 31 (.call (cf 22) [(v 30)]))] [0, 4])
 (.reg false [(q 32 (.mov (v 0))),
 (q 33 (.call (cf 58) [(v 32)]))] [0, 4]))))
 (.reg false [(q 22 (.mov (v 0))),
 (q 23 (.call (cf 42) [(v 22)])),
 (q 5 (.mov (v 23)))] [0, 4, 5])))
def f59_c : VCode :=
 (.seq (.reg false [(q 2 (.mov (ci 0)))] [0])
 (.seq (.seq (.reg false [(q 6 (.mov (v 0))),
 (q 7 (.call (cf 42) [(v 6)])),
 (q 3 (.mov (v 7)))] [0, 3])
 (.seq (.reg false [(q 8 (.mov (v 3))),
 (q 9 (.bin .lss (v 8) (ci 48))),
 (q 10 (.mov (v 9))),
 ⟨(some 11), .mov (v 3), (some (10, false)), []⟩,
 ⟨(some 12), .bin .gtr (v 11) (ci 57), (some (10, false)), []⟩,
 (q 13 (.pick (v 10) (.c (.bool true)) (v 12)))] [0, 13])
 (.cond (v 13) (.seq (.reg false [(q 2 (.mov (ci (-1))))] [2])
 .ret) .skip)))
 (.seq (.reg false [(q 4 (.mov (ci 0)))] [0, 4])
 (.seq (.seq (.reg false [(q 14 (.mov (v 0))),
 (q 15 (.call (cf 42) [(v 14)])),
 (q 5 (.mov (v 15)))] [0, 4, 5])
 (.block 0 (.loop [0, 4, 5] f59_l0)))
 (.seq (.reg false [(q 34 (.mov (v 4))),
 (q 2 (.mov (v 34)))] [2])
 .ret)))))
def f59 : VFn := ⟨1, 35, f59_c, [.t 2], true, []⟩
noncomputable def f61 : VFn := mf 1 28 61
noncomputable def f62 : VFn := mf 1 20 62
def f63_l0 : VCode :=
 (.seq (.reg false [(q 9 (.bin .lss (v 8) (v 7)))] [0, 5, 7, 8, 9])
 (.seq (.cond (v 9) .skip (.exit 0))
 (.seq (.block 1 (.seq (.reg false [(q 10 (.mov (v 0))),
 (q 11 (.call (cf 58) [(v 10)])),
 (q 6 (.mov (v 11)))] [0, 5, 6, 7, 8])
 (.seq (.reg false [(q 12 (.mov (v 6))),
 (q 13 (.call (cf 41) [(v 12), (.c (.str ⟨#[48, 49, 50, 51, 52, 53, 54, 55, 56, 57, 97, 98, 99, 100, 101, 102, 65, 66, 67, 68, 69, 70]⟩))])),
 (q 14 (.call (cf 22) [(v 13)]))] [0, 5, 6, 7, 8])
 (.seq (.reg false [(q 15 (.mov (v 5))),
 (q 16 (.bin .shl (v 15) (.c (.int .u64 4)))),
 (q 17 (.mov (v 6))),
 (q 18 (.bin .and (v 17) (ci 15))),
 (q 19 (.bin .or (v 16) (v 18))),
 (q 5 (.mov (v 19)))] [0, 5, 6, 7, 8])
 (.seq (.reg false [(q 20 (.mov (v 6))),
 (q 21 (.bin .gtr (v 20) (ci 57)))] [0, 5, 7, 8, 21])
 (.cond (v 21) (.reg false [(q 22 (.mov (v 5))),
 (q 23 (.bin .add (v 22) (ci 9))),
 (q 5 (.mov (v 23)))] [0, 5, 7, 8]) .skip))))))
 (.reg false [(q 24 (.bin .add (v 8) (ci 1))),
 (q 8 (.mov (v 24)))] [0, 5, 7, 8]))))
def f63_c : VCode :=
 (.seq (.reg false [(q 4 (.mov (ci 0)))] [0, 1])
 (.seq (.reg false [(q 5 (.mov (ci 0)))] [0, 1, 5])
 (.seq (.seq (.reg false [(q 7 (.mov (v 1))),
 (q 8 (.mov (ci 0)))] [0, 5, 7, 8])
 (.block 0 (.loop [0, 5, 7, 8] f63_l0)))
 (.seq (.reg false [(q 25 (.mov (v 5))),
 (q 4 (.mov (v 25)))] [4])
 .ret))))
def f63 : VFn := ⟨2, 26, f63_c, [.t 4], true, []⟩
def f64_l0 : VCode :=
 (.seq (.seq (.reg false [(q 13 (.mov (v 0))),
 (q 14 (.call (cf 28) [(v 13), (.c (.str ⟨#[125]⟩))])),
 (q 15 (.un .not (v 14)))] [0, 3, 15])
 (.cond (v 15) .skip (.exit 0)))
 (.block 1 (.reg false [(q 16 (.mov (v 3))),
 (q 17 (.bin .shl (v 16) (.c (.int .u64 4)))),
 (q 18 (.mov (v 0))),
 (q 19 (.call (cf 63) [(v 18), (ci 1)])),
 (q 20 (.bin .or (v 17) (v 19))),
 (q 21 (.min [(v 20), (ci 1114112)])),
 (q 3 (.mov (v 21)))] [0, 3])))
def f64_c : VCode :=
 (.seq (.reg false [(q 2 (.mov (ci 0)))] [0])
 (.seq (.seq (.reg false [(q 9 (.mov (v 0))),
 (q 10 (.call (cf 28) [(v 9), (.c (.str ⟨#[123]⟩))]))] [0, 10])
 (.cond (v 10) (.seq (.reg false [(q 11 (.mov (v 0))),
 (q 12 (.call (cf 63) [(v 11), (ci 1)])),
 (q 3 (.mov (v 12)))] [0, 3])
 (.seq (.block 0 (.loop [0, 3] f64_l0))
 (.seq (.reg false [(q 23 (.mov (v 3))),
 (q 24 (.call (cf 65) [(.c (.sl 0 [] true)), (v 23)])),
 (q 22 (.mov (v 24))),
 (q 25 (.extract (v 22) 0)),
 (q 26 (.extract (v 22) 1)),
 (q 4 (.mov (v 25))),
 (q 5 (.mov (v 26)))] [3, 5])
 (.seq (.reg false [(q 27 (.mov (v 5))),
 (q 28 (.bin .eql (v 27) (ci 0))),
 (q 29 (.call (cf 22) [(v 28)]))] [3])
 (.seq (.reg false [(q 30 (.mov (v 3))),
 (q 2 (.mov (v 30)))] [2])
 .ret))))) .skip))
 (.seq (.reg false [(q 31 (.mov (v 0))),
 (q 32 (.call (cf 63) [(v 31), (ci 4)])),
 (q 6 (.mov (v 32)))] [0, 6])
 (.seq (.seq (.reg false [(q 33 (.mov (v 6))),
 (q 34 (.bin .lss (v 33) (ci 55296))),
 (q 35 (.mov (v 34))),
 ⟨(some 36), .mov (v 6), (some (35, false)), []⟩,
 ⟨(some 37), .bin .gtr (v 36) (ci 57343), (some (35, false)), []⟩,
 (q 38 (.pick (v 35) (.c (.bool true)) (v 37)))] [0, 6, 38])
 (.cond (v 38) (.seq (.reg false [(q 39 (.mov (v 6))),
 (q 2 (.mov (v 39)))] [2])
 .ret) .skip))
 (.seq (.reg false [(q 40 (.mov (v 0))),
 (q 41 (.call (cf 28) [(v 40), (.c (.str ⟨#[92, 117]⟩))])),
 (q 42 (.call (cf 22) [(v 41)]))] [0, 6])
 (.seq (.reg false [(q 44 (.mov (v 6))),
 (q 45 (.mov (v 0))),
 (q 46 (.call (cf 63) [(v 45), (ci 4)])),
 (q 47 (.call (cf 66) [(v 44), (v 46)])),
 (q 43 (.mov (v 47))),
 (q 48 (.extract (v 43) 0)),
 (q 49 (.extract (v 43) 1)),
 (q 7 (.mov (v 48))),
 (q 8 (.mov (v 49)))] [7, 8])
 (.seq (.reg false [(q 50 (.mov (v 8))),
 (q 51 (.bin .eql (v 50) (ci 0))),
 (q 52 (.call (cf 22) [(v 51)]))] [7])
 (.seq (.reg false [(q 53 (.mov (v 7))),
 (q 2 (.mov (v 53)))] [2])
 .ret))))))))
def f64 : VFn := ⟨1, 54, f64_c, [.t 2], true, []⟩
noncomputable def f65 : VFn := mf 2 64 65
noncomputable def f66 : VFn := mf 2 32 66
noncomputable def f67 : VFn := mf 1 17 67
noncomputable def f68 : VFn := mf 2 15 68
noncomputable def f69 : VFn := mf 2 11 69
noncomputable def tab : FuncId → Option VFn := fun f => match f with
 | 5 => some f5
 | 6 => some f6
 | 7 => some f7
 | 9 => some f9
 | 11 => some f11
 | 14 => some f14
 | 15 => some f15
 | 16 => some f16
 | 17 => some f17
 | 18 => some f18
 | 19 => some f19
 | 20 => some f20
 | 21 => some f21
 | 22 => some f22
 | 23 => some f23
 | 24 => some f24
 | 25 => some f25
 | 26 => some f26
 | 27 => some f27
 | 28 => some f28
 | 29 => some f29
 | 30 => some f30
 | 31 => some f31
 | 32 => some f32
 | 33 => some f33
 | 34 => some f34
 | 35 => some f35
 | 36 => some f36
 | 37 => some f37
 | 38 => some f38
 | 39 => some f39
 | 40 => some f40
 | 41 => some f41
 | 42 => some f42
 | 43 => some f43
 | 44 => some f44
 | 45 => some f45
 | 46 => some f46
 | 47 => some f47
 | 48 => some f48
 | 49 => some f49
 | 50 => some f50
 | 51 => some f51
 | 52 => some f52
 | 53 => some f53
 | 54 => some f54
 | 55 => some f55
 | 56 => some f56
 | 57 => some f57
 | 58 => some f58
 | 59 => some f59
 | 61 => some f61
 | 62 => some f62
 | 63 => some f63
 | 64 => some f64
 | 65 => some f65
 | 66 => some f66
 | 67 => some f67
 | 68 => some f68
 | 69 => some f69
 | _ => none
theorem f5_ok : lowAt Try.prog [] true [] 5 = some f5 := by kernel_rfl
theorem f6_ok : lowAt Try.prog [] true [] 6 = some f6 := by kernel_rfl
theorem f7_ok : lowAt Try.prog [] false [] 7 = some f7 := by kernel_rfl
theorem f9_ok : lowAt Try.prog [] true [] 9 = some f9 := by kernel_rfl
theorem f11_ok : lowAt Try.prog [(1, (1, (0, 0)))] true [] 11 = some f11 := by kernel_rfl
theorem f14_ok : lowAt Try.prog [] true [] 14 = some f14 := by kernel_rfl
theorem f15_ok : lowAt Try.prog [] true [] 15 = some f15 := by kernel_rfl
theorem f16_ok : lowAt Try.prog [] false [0] 16 = some f16 := by kernel_rfl
theorem f17_ok : lowAt Try.prog [] true [] 17 = some f17 := by kernel_rfl
theorem f18_ok : lowAt Try.prog [] true [] 18 = some f18 := by kernel_rfl
theorem f19_ok : lowAt Try.prog [] true [] 19 = some f19 := by kernel_rfl
theorem f20_ok : lowAt Try.prog [] true [] 20 = some f20 := by kernel_rfl
theorem f21_ok : lowAt Try.prog [] true [] 21 = some f21 := by kernel_rfl
theorem f22_ok : lowAt Try.prog [] true [] 22 = some f22 := by kernel_rfl
theorem f23_ok : lowAt Try.prog [] false [0] 23 = some f23 := by kernel_rfl
theorem f24_ok : lowAt Try.prog [] true [] 24 = some f24 := by kernel_rfl
theorem f25_ok : lowAt Try.prog [] true [] 25 = some f25 := by kernel_rfl
theorem f26_ok : lowAt Try.prog [] true [] 26 = some f26 := by kernel_rfl
theorem f27_ok : lowAt Try.prog [] true [] 27 = some f27 := by kernel_rfl
theorem f28_ok : lowAt Try.prog [] true [] 28 = some f28 := by kernel_rfl
theorem f29_ok : lowAt Try.prog [] true [] 29 = some f29 := by kernel_rfl
theorem f30_ok : lowAt Try.prog [] false [0] 30 = some f30 := by kernel_rfl
theorem f31_ok : lowAt Try.prog [] false [0] 31 = some f31 := by kernel_rfl
theorem f32_ok : lowAt Try.prog [] false [0] 32 = some f32 := by kernel_rfl
theorem f33_ok : lowAt Try.prog [] false [0] 33 = some f33 := by kernel_rfl
theorem f34_ok : lowAt Try.prog [] false [0] 34 = some f34 := by kernel_rfl
theorem f35_ok : lowAt Try.prog [] false [0] 35 = some f35 := by kernel_rfl
theorem f36_ok : lowAt Try.prog [] false [0] 36 = some f36 := by kernel_rfl
theorem f37_ok : lowAt Try.prog [] false [0] 37 = some f37 := by kernel_rfl
theorem f38_ok : lowAt Try.prog [] true [] 38 = some f38 := by kernel_rfl
theorem f39_ok : lowAt Try.prog [] true [] 39 = some f39 := by kernel_rfl
theorem f40_ok : lowAt Try.prog [] true [] 40 = some f40 := by kernel_rfl
theorem f41_ok : lowAt Try.prog [] true [] 41 = some f41 := by kernel_rfl
theorem f42_ok : lowAt Try.prog [] true [] 42 = some f42 := by kernel_rfl
theorem f43_ok : lowAt Try.prog [] true [] 43 = some f43 := by kernel_rfl
theorem f44_ok : lowAt Try.prog [] false [0] 44 = some f44 := by kernel_rfl
theorem f45_ok : lowAt Try.prog [] true [] 45 = some f45 := by kernel_rfl
theorem f46_ok : lowAt Try.prog [] true [] 46 = some f46 := by kernel_rfl
theorem f47_ok : lowAt Try.prog [] false [0] 47 = some f47 := by kernel_rfl
theorem f48_ok : lowAt Try.prog [] false [0] 48 = some f48 := by kernel_rfl
theorem f49_ok : lowAt Try.prog [] true [] 49 = some f49 := by kernel_rfl
theorem f50_ok : lowAt Try.prog [] true [] 50 = some f50 := by kernel_rfl
theorem f51_ok : lowAt Try.prog [] true [] 51 = some f51 := by kernel_rfl
theorem f52_ok : lowAt Try.prog [] false [0] 52 = some f52 := by kernel_rfl
theorem f53_ok : lowAt Try.prog [] true [] 53 = some f53 := by kernel_rfl
theorem f54_ok : lowAt Try.prog [] true [] 54 = some f54 := by kernel_rfl
theorem f55_ok : lowAt Try.prog [] true [] 55 = some f55 := by kernel_rfl
theorem f56_ok : lowAt Try.prog [] true [] 56 = some f56 := by kernel_rfl
theorem f57_ok : lowAt Try.prog [] true [] 57 = some f57 := by kernel_rfl
theorem f58_ok : lowAt Try.prog [] true [] 58 = some f58 := by kernel_rfl
theorem f59_ok : lowAt Try.prog [] true [] 59 = some f59 := by kernel_rfl
theorem f61_ok : lowAt Try.prog [] true [] 61 = some f61 := by kernel_rfl
theorem f62_ok : lowAt Try.prog [] true [] 62 = some f62 := by kernel_rfl
theorem f63_ok : lowAt Try.prog [] true [] 63 = some f63 := by kernel_rfl
theorem f64_ok : lowAt Try.prog [] true [] 64 = some f64 := by kernel_rfl
theorem f65_ok : lowAt Try.prog [] true [] 65 = some f65 := by kernel_rfl
theorem f66_ok : lowAt Try.prog [] true [] 66 = some f66 := by kernel_rfl
theorem f67_ok : lowAt Try.prog [] true [] 67 = some f67 := by kernel_rfl
theorem f68_ok : lowAt Try.prog [] true [] 68 = some f68 := by kernel_rfl
theorem f69_ok : lowAt Try.prog [] true [] 69 = some f69 := by kernel_rfl
theorem tab_ok : TableOk Try.prog tab := by
 intro f vf h
 unfold tab at h
 split at h
 · cases h; exact lowAt_ok f5_ok
 · cases h; exact lowAt_ok f6_ok
 · cases h; exact lowAt_ok f7_ok
 · cases h; exact lowAt_ok f9_ok
 · cases h; exact lowAt_ok f11_ok
 · cases h; exact lowAt_ok f14_ok
 · cases h; exact lowAt_ok f15_ok
 · cases h; exact lowAt_ok f16_ok
 · cases h; exact lowAt_ok f17_ok
 · cases h; exact lowAt_ok f18_ok
 · cases h; exact lowAt_ok f19_ok
 · cases h; exact lowAt_ok f20_ok
 · cases h; exact lowAt_ok f21_ok
 · cases h; exact lowAt_ok f22_ok
 · cases h; exact lowAt_ok f23_ok
 · cases h; exact lowAt_ok f24_ok
 · cases h; exact lowAt_ok f25_ok
 · cases h; exact lowAt_ok f26_ok
 · cases h; exact lowAt_ok f27_ok
 · cases h; exact lowAt_ok f28_ok
 · cases h; exact lowAt_ok f29_ok
 · cases h; exact lowAt_ok f30_ok
 · cases h; exact lowAt_ok f31_ok
 · cases h; exact lowAt_ok f32_ok
 · cases h; exact lowAt_ok f33_ok
 · cases h; exact lowAt_ok f34_ok
 · cases h; exact lowAt_ok f35_ok
 · cases h; exact lowAt_ok f36_ok
 · cases h; exact lowAt_ok f37_ok
 · cases h; exact lowAt_ok f38_ok
 · cases h; exact lowAt_ok f39_ok
 · cases h; exact lowAt_ok f40_ok
 · cases h; exact lowAt_ok f41_ok
 · cases h; exact lowAt_ok f42_ok
 · cases h; exact lowAt_ok f43_ok
 · cases h; exact lowAt_ok f44_ok
 · cases h; exact lowAt_ok f45_ok
 · cases h; exact lowAt_ok f46_ok
 · cases h; exact lowAt_ok f47_ok
 · cases h; exact lowAt_ok f48_ok
 · cases h; exact lowAt_ok f49_ok
 · cases h; exact lowAt_ok f50_ok
 · cases h; exact lowAt_ok f51_ok
 · cases h; exact lowAt_ok f52_ok
 · cases h; exact lowAt_ok f53_ok
 · cases h; exact lowAt_ok f54_ok
 · cases h; exact lowAt_ok f55_ok
 · cases h; exact lowAt_ok f56_ok
 · cases h; exact lowAt_ok f57_ok
 · cases h; exact lowAt_ok f58_ok
 · cases h; exact lowAt_ok f59_ok
 · cases h; exact lowAt_ok f61_ok
 · cases h; exact lowAt_ok f62_ok
 · cases h; exact lowAt_ok f63_ok
 · cases h; exact lowAt_ok f64_ok
 · cases h; exact lowAt_ok f65_ok
 · cases h; exact lowAt_ok f66_ok
 · cases h; exact lowAt_ok f67_ok
 · cases h; exact lowAt_ok f68_ok
 · cases h; exact lowAt_ok f69_ok
 · cases h
theorem d13_ok : lowDAt Try.prog 13 20 = some d13 := by kernel_rfl
end Go.Proofs.Ytpghocjfmddpkaa.V
