/- The functions of this seat, as the evaluator has them (printed by wip/v/VG.lean). -/
import Derived.Test.YtjnfkifdgojdaaaChecked
import Derived.Test.YtjnfkifdgojdaaaV26
import Derived.Test.YtjnfkifdgojdaaaV35
namespace Go.Proofs.Ytjnfkifdgojdaaa.V
open Go
def q (t : Nat) (o : VOp) : VOper := ⟨some t, o, none, []⟩
def cf (f : FuncId) : Opd := .c (.func (.func f) [] [])
def ci (z : Int) : Opd := .c (.int .i64 z)
def J (t s : Nat) : VOper := ⟨some t, .mov (.t s), none, []⟩
def Y (t : Nat) (o : VOp) (g : Nat) : VOper := ⟨some t, o, some (g, true), []⟩
def Z (t s g : Nat) : VOper := ⟨some t, .mov (.t s), some (g, true), []⟩
def K (l : List VOper) (k : List Nat) : VCode := .reg false l k
def B (l : List VOper) (k : List Nat) : VCode := .reg true l k
instance (n : Nat) : OfNat Opd n := ⟨.t n⟩
def E (t x i : Nat) : VOper := ⟨some t, .extract (.t x) i, none, []⟩
def f5_c : VCode :=
 (.seq (K [(q 2 (.box true 6 0)),(q 4 (.mov (.c (.bool false))))] [1, 2])
 (.seq (K [(J 20 1),(q 21 (.conv .strToBytes 20)),(q 22 (.call (cf 9) [21])),(J 19 22),(E 23 19 0),(E 24 19 1),(J 5 23),(J 6 24)] [1, 2, 5, 6])
 (.seq (K [(q 26 (.load (some 6) 2)),(q 27 (.call (cf 12) [26, (ci 1000)])),(J 25 27),(E 28 25 0),(E 29 25 1),(J 7 28),(J 8 29)] [1, 2, 5, 6, 7, 8])
 (.seq (.seq (K [(J 30 6),(q 31 (.bin .neq 30 (ci 0))),(J 32 31),⟨(some 33), .mov 8, (some (32, false)), []⟩,⟨(some 34), .bin .neq 33 (ci 0), (some (32, false)), []⟩,(q 35 (.pick 32 (.c (.bool true)) 34)),(J 36 35),⟨(some 37), .mov 7, (some (36, false)), []⟩,⟨(some 38), .bin .gtr 37 (ci 500), (some (36, false)), []⟩,(q 39 (.pick 36 (.c (.bool true)) 38)),(J 40 39),⟨(some 41), .mov 5, (some (40, false)), []⟩,⟨(some 42), .len 41, (some (40, false)), []⟩,⟨(some 43), .bin .gtr 42 (ci 100), (some (40, false)), []⟩,(q 44 (.pick 40 (.c (.bool true)) 43)),(J 45 44),⟨(some 46), .load (some 6) 2, (some (45, false)), []⟩,⟨(some 47), .call (cf 13) [46], (some (45, false)), []⟩,⟨(some 48), .bin .gtr 47 (ci 900), (some (45, false)), []⟩,(q 49 (.pick 45 (.c (.bool true)) 48))] [1, 2, 49])
 (.cond 49 (.seq (K [(q 50 (.call (cf 11) [])),(J 4 50)] [4])
 .ret) .skip))
 (.seq (K [(q 51 (.build [(.int .i64 0), (.int .i64 0)] [(0, 1, (ci 0)), (1, 1, (ci 1114111))])),(q 52 (.buildRow true 2 1 [(.int .i64 0), (.int .i64 0)] [(0, 51)])),(q 53 (.build [(.int .i64 0), (.sl 0 [] true), (.int .i64 0), (.int .i64 0), (.bool false), (.sl 0 [] true)] [(0, 1, (ci 2)), (1, 1, 52)])),(q 54 (.buildRow true 6 1 [(.int .i64 0), (.sl 0 [] true), (.int .i64 0), (.int .i64 0), (.bool false), (.sl 0 [] true)] [(0, 53)])),(q 55 (.build [(.int .i64 0), (.sl 0 [] true), (.int .i64 0), (.int .i64 0), (.bool false), (.sl 0 [] true)] [(0, 1, (ci 5)), (3, 1, (ci (-1))), (5, 1, 54)])),(q 9 (.alloc true [(.int .i64 0), (.sl 0 [] true), (.int .i64 0), (.int .i64 0), (.bool false), (.sl 0 [] true)])),⟨none, .store true 6 9 55, none, []⟩] [1, 2, 9])
 (.seq (K [(q 57 (.load (some 6) 2)),(q 58 (.call (cf 8) [57, (ci 1000)])),(J 56 58),(E 59 56 0),(E 60 56 1),(J 10 59),(J 11 60)] [1, 2, 9, 10, 11])
 (.seq (K [(q 62 (.load (some 6) 9)),(q 63 (.load (some 6) 2)),(q 64 (.buildRow true 6 2 [(.int .i64 0), (.sl 0 [] true), (.int .i64 0), (.int .i64 0), (.bool false), (.sl 0 [] true)] [(0, 62), (1, 63)])),(q 65 (.build [(.int .i64 0), (.sl 0 [] true), (.int .i64 0), (.int .i64 0), (.bool false), (.sl 0 [] true)] [(0, 1, (ci 3)), (5, 1, 64)])),(q 66 (.call (cf 8) [65, (ci 1010)])),(J 61 66),(E 67 61 0),(E 68 61 1),(J 12 67),(J 13 68)] [1, 10, 11, 12, 13])
 (.seq (K [(J 70 10),(J 71 1),(q 72 (.call (cf 10) [70, 71])),(J 69 72),(E 73 69 0),(E 74 69 1),(E 75 69 2),(J 14 73),(J 15 74),(J 16 75)] [1, 11, 12, 13, 14, 16])
 (.seq (K [(J 77 12),(J 78 1),(q 79 (.call (cf 14) [77, 78])),(J 76 79),(E 80 76 0),(E 81 76 1),(J 17 80),(J 18 81)] [11, 13, 14, 16, 17, 18])
 (.seq (.seq (K [(J 82 11),(q 83 (.bin .neq 82 (ci 0))),(J 84 83),⟨(some 85), .mov 13, (some (84, false)), []⟩,⟨(some 86), .bin .neq 85 (ci 0), (some (84, false)), []⟩,(q 87 (.pick 84 (.c (.bool true)) 86)),(J 88 87),⟨(some 89), .mov 16, (some (88, false)), []⟩,⟨(some 90), .bin .neq 89 (ci 0), (some (88, false)), []⟩,(q 91 (.pick 88 (.c (.bool true)) 90)),(J 92 91),⟨(some 93), .mov 18, (some (92, false)), []⟩,⟨(some 94), .bin .neq 93 (ci 0), (some (92, false)), []⟩,(q 95 (.pick 92 (.c (.bool true)) 94))] [14, 17, 95])
 (.cond 95 (.seq (K [(q 4 (.mov (.c (.bool false))))] [4])
 .ret) .skip))
 (.seq (K [(J 96 14),(J 97 17),(q 98 (.len 97)),(q 99 (.bin .gtr 98 (ci 0))),(q 100 (.eqb false 96 99)),(J 101 100),(Y 102 (.call (cf 11) []) 101),(q 103 (.pick 101 102 (.c (.bool false)))),(J 4 103)] [4])
 .ret)))))))))))
def f5 : VFn := ⟨2, 104, f5_c, [.t 4], true, []⟩
def f6_c : VCode :=
 (.seq (K [(q 3 (.box true 6 0)),(q 4 (.box true 6 1)),(q 6 (.mov (.c (.bool false))))] [2, 3, 4])
 (.seq (K [(q 32 (.load (some 6) 3)),(q 33 (.call (cf 12) [32, (ci 1000)])),(J 31 33),(E 34 31 0),(E 35 31 1),(J 7 34),(J 8 35)] [2, 3, 4, 7, 8])
 (.seq (K [(q 37 (.load (some 6) 4)),(q 38 (.call (cf 12) [37, (ci 1000)])),(J 36 38),(E 39 36 0),(E 40 36 1),(J 9 39),(J 10 40)] [2, 3, 4, 7, 8, 9, 10])
 (.seq (.seq (K [(J 41 8),(q 42 (.bin .neq 41 (ci 0))),(J 43 42),⟨(some 44), .mov 10, (some (43, false)), []⟩,⟨(some 45), .bin .neq 44 (ci 0), (some (43, false)), []⟩,(q 46 (.pick 43 (.c (.bool true)) 45)),(J 47 46),⟨(some 48), .mov 7, (some (47, false)), []⟩,⟨(some 49), .bin .gtr 48 (ci 500), (some (47, false)), []⟩,(q 50 (.pick 47 (.c (.bool true)) 49)),(J 51 50),⟨(some 52), .mov 9, (some (51, false)), []⟩,⟨(some 53), .bin .gtr 52 (ci 500), (some (51, false)), []⟩,(q 54 (.pick 51 (.c (.bool true)) 53)),(J 55 54),⟨(some 56), .mov 2, (some (55, false)), []⟩,⟨(some 57), .lens 56, (some (55, false)), []⟩,⟨(some 58), .bin .gtr 57 (ci 200), (some (55, false)), []⟩,(q 59 (.pick 55 (.c (.bool true)) 58)),(J 60 59),⟨(some 61), .load (some 6) 3, (some (60, false)), []⟩,⟨(some 62), .call (cf 13) [61], (some (60, false)), []⟩,⟨(some 63), .bin .gtr 62 (ci 900), (some (60, false)), []⟩,(q 64 (.pick 60 (.c (.bool true)) 63)),(J 65 64),⟨(some 66), .load (some 6) 4, (some (65, false)), []⟩,⟨(some 67), .call (cf 13) [66], (some (65, false)), []⟩,⟨(some 68), .bin .gtr 67 (ci 900), (some (65, false)), []⟩,(q 69 (.pick 65 (.c (.bool true)) 68))] [2, 3, 4, 69])
 (.cond 69 (.seq (K [(q 70 (.call (cf 11) [])),(J 6 70)] [6])
 .ret) .skip))
 (.seq (K [(q 72 (.load (some 6) 3)),(q 73 (.call (cf 8) [72, (ci 1000)])),(J 71 73),(E 74 71 0),(E 75 71 1),(J 11 74),(J 12 75)] [2, 3, 4, 11, 12])
 (.seq (K [(q 77 (.load (some 6) 4)),(q 78 (.call (cf 8) [77, (ci 1000)])),(J 76 78),(E 79 76 0),(E 80 76 1),(J 13 79),(J 14 80)] [2, 3, 4, 11, 12, 13, 14])
 (.seq (K [(q 82 (.load (some 6) 3)),(q 83 (.load (some 6) 4)),(q 84 (.buildRow true 6 2 [(.int .i64 0), (.sl 0 [] true), (.int .i64 0), (.int .i64 0), (.bool false), (.sl 0 [] true)] [(0, 82), (1, 83)])),(q 85 (.build [(.int .i64 0), (.sl 0 [] true), (.int .i64 0), (.int .i64 0), (.bool false), (.sl 0 [] true)] [(0, 1, (ci 4)), (5, 1, 84)])),(q 86 (.call (cf 8) [85, (ci 1010)])),(J 81 86),(E 87 81 0),(E 88 81 1),(J 15 87),(J 16 88)] [2, 3, 11, 12, 13, 14, 15, 16])
 (.seq (K [(q 90 (.load (some 6) 3)),(q 91 (.build [(.int .i64 0), (.sl 0 [] true), (.int .i64 0), (.int .i64 0), (.bool false), (.sl 0 [] true)] [(0, 1, (ci 1))])),(q 92 (.buildRow true 6 2 [(.int .i64 0), (.sl 0 [] true), (.int .i64 0), (.int .i64 0), (.bool false), (.sl 0 [] true)] [(0, 90), (1, 91)])),(q 93 (.build [(.int .i64 0), (.sl 0 [] true), (.int .i64 0), (.int .i64 0), (.bool false), (.sl 0 [] true)] [(0, 1, (ci 3)), (5, 1, 92)])),(q 94 (.call (cf 8) [93, (ci 1010)])),(J 89 94),(E 95 89 0),(E 96 89 1),(J 17 95),(J 18 96)] [2, 11, 12, 13, 14, 15, 16, 17, 18])
 (.seq (K [(J 98 11),(J 99 2),(q 100 (.call (cf 10) [98, 99])),(J 97 100),(E 101 97 0),(E 102 97 1),(E 103 97 2),(J 19 101),(J 20 102),(J 21 103)] [2, 12, 13, 14, 15, 16, 17, 18, 19, 21])
 (.seq (K [(J 105 13),(J 106 2),(q 107 (.call (cf 10) [105, 106])),(J 104 107),(E 108 104 0),(E 109 104 1),(E 110 104 2),(J 22 108),(J 23 109),(J 24 110)] [2, 12, 14, 15, 16, 17, 18, 19, 21, 22])
 (.seq (K [(J 112 15),(J 113 2),(q 114 (.call (cf 10) [112, 113])),(J 111 114),(E 115 111 0),(E 116 111 1),(E 117 111 2),(J 25 115),(J 26 116),(J 27 117)] [2, 12, 14, 16, 17, 18, 19, 21, 22, 25])
 (.seq (K [(J 119 17),(J 120 2),(q 121 (.call (cf 10) [119, 120])),(J 118 121),(E 122 118 0),(E 123 118 1),(E 124 118 2),(J 28 122),(J 29 123),(J 30 124)] [12, 14, 16, 18, 19, 21, 22, 25, 28])
 (.seq (.seq (K [(J 125 12),(q 126 (.bin .neq 125 (ci 0))),(J 127 126),⟨(some 128), .mov 14, (some (127, false)), []⟩,⟨(some 129), .bin .neq 128 (ci 0), (some (127, false)), []⟩,(q 130 (.pick 127 (.c (.bool true)) 129)),(J 131 130),⟨(some 132), .mov 16, (some (131, false)), []⟩,⟨(some 133), .bin .neq 132 (ci 0), (some (131, false)), []⟩,(q 134 (.pick 131 (.c (.bool true)) 133)),(J 135 134),⟨(some 136), .mov 18, (some (135, false)), []⟩,⟨(some 137), .bin .neq 136 (ci 0), (some (135, false)), []⟩,(q 138 (.pick 135 (.c (.bool true)) 137))] [19, 21, 22, 25, 28, 138])
 (.cond 138 (.seq (K [(q 6 (.mov (.c (.bool false))))] [6])
 .ret) .skip))
 (.seq (K [(J 139 21),(q 140 (.bin .neq 139 (ci 0))),(J 141 140),⟨(some 142), .mov 25, (some (141, false)), []⟩,⟨(some 143), .mov 19, (some (141, false)), []⟩,⟨(some 144), .mov 143, (some (141, false)), []⟩,⟨(some 145), .mov 22, (some (144, false)), []⟩,⟨(some 146), .pick 144 (.c (.bool true)) 145, (some (141, false)), []⟩,⟨(some 147), .eqb false 142 146, (some (141, false)), []⟩,⟨(some 148), .mov 147, (some (141, false)), []⟩,(Z 149 28 148),(Z 150 19 148),(Y 151 (.eqb false 149 150) 148),⟨(some 152), .pick 148 151 (.c (.bool false)), (some (141, false)), []⟩,(q 153 (.pick 141 (.c (.bool true)) 152)),(J 154 153),(Y 155 (.call (cf 11) []) 154),(q 156 (.pick 154 155 (.c (.bool false)))),(J 6 156)] [6])
 .ret))))))))))))))
def f6 : VFn := ⟨3, 157, f6_c, [.t 6], true, []⟩
def f7_l0 : VCode :=
 (.seq (K [(q 13 (.bin .lss 12 11))] [3, 10, 11, 12, 13])
 (.seq (.cond 13 .skip (.exit 0))
 (.seq (.block 1 (.seq (K [(q 14 (.iaddr 2 10 12)),(q 15 (.load (some 2) 14)),(q 5 (.alloc true [(.int .i64 0), (.int .i64 0)])),⟨none, .store true 2 5 15, none, []⟩] [3, 5, 10, 11, 12])
 (.seq (K [(q 16 (.faddr 0 5)),(q 17 (.load none 16)),(q 18 (.max [17, (ci 0)])),(q 19 (.faddr 1 5)),(q 20 (.load none 19)),(q 21 (.min [20, (ci 1114111)])),(q 22 (.faddr 0 5)),⟨none, .store false 1 22 18, none, []⟩,(q 23 (.faddr 1 5)),⟨none, .store false 1 23 21, none, []⟩] [3, 5, 10, 11, 12])
 (.seq (K [(q 24 (.faddr 0 5)),(q 25 (.load none 24)),(q 26 (.faddr 1 5)),(q 27 (.load none 26)),(q 28 (.bin .leq 25 27))] [3, 5, 10, 11, 12, 28])
 (.cond 28 (.reg false [(J 29 3),(q 30 (.load (some 2) 5)),(q 31 (.buildRow true 2 1 [(.int .i64 0), (.int .i64 0)] [(0, 30)])),(q 32 (.append 2 16 29 31)),(J 3 32)] [3, 10, 11, 12]) .skip)))))
 (.reg false [(q 33 (.bin .add 12 (ci 1))),(J 12 33)] [3, 10, 11, 12]))))
def f7_l1 : VCode :=
 (.seq (K [(q 39 (.bin .lss 38 37))] [6, 36, 37, 38, 39])
 (.seq (.cond 39 .skip (.exit 2))
 (.seq (.block 3 (.seq (K [(q 40 (.iaddr 2 36 38)),(q 41 (.load (some 2) 40)),(q 8 (.alloc true [(.int .i64 0), (.int .i64 0)])),⟨none, .store true 2 8 41, none, []⟩] [6, 8, 36, 37, 38])
 (.seq (.seq (K [(J 42 6),(q 43 (.len 42)),(J 9 43)] [6, 8, 9, 36, 37, 38])
 (.seq (B [(J 44 9),(q 45 (.bin .gtr 44 (ci 0))),(J 46 45),(Y 47 (.faddr 0 8) 46),(Y 48 (.load none 47) 46),(Z 49 6 46),(Z 50 9 46),(Y 51 (.bin .sub 50 (ci 1)) 46),(Y 52 (.iaddr 2 49 51) 46),(Y 53 (.faddr 1 52) 46),(Y 54 (.load none 53) 46),(Y 55 (.bin .add 54 (ci 1)) 46),(Y 56 (.bin .leq 48 55) 46),(q 57 (.pick 46 56 (.c (.bool false))))] [6, 8, 9, 36, 37, 38, 57])
 (.cond 57 (.seq (B [(J 58 6),(J 59 9),(q 60 (.bin .sub 59 (ci 1))),(J 61 6),(J 62 9),(q 63 (.bin .sub 62 (ci 1))),(q 64 (.iaddr 2 61 63)),(q 65 (.faddr 1 64)),(q 66 (.load none 65)),(q 67 (.faddr 1 8)),(q 68 (.load none 67)),(q 69 (.max [66, 68])),(q 70 (.iaddr 2 58 60)),(q 71 (.faddr 1 70)),⟨none, .store false 1 71 69, none, []⟩] [6, 36, 37, 38])
 (.exit 3)) .skip)))
 (.reg false [(J 72 6),(q 73 (.load (some 2) 8)),(q 74 (.buildRow true 2 1 [(.int .i64 0), (.int .i64 0)] [(0, 73)])),(q 75 (.append 2 16 72 74)),(J 6 75)] [6, 36, 37, 38]))))
 (.reg false [(q 76 (.bin .add 38 (ci 1))),(J 38 76)] [6, 36, 37, 38]))))
def f7_c : VCode :=
 (.seq (K [(q 2 (.nilrow 2))] [0])
 (.seq (K [(q 3 (.nilrow 2))] [0, 3])
 (.seq (.seq (K [(J 10 0),(q 11 (.len 10)),(q 12 (.mov (ci 0)))] [3, 10, 11, 12])
 (.block 0 (.loop [3, 10, 11, 12] f7_l0)))
 (.seq (K [(J 34 3),(q 35 (.call (cf 15) [34, (cf 16)]))] [3])
 (.seq (K [(q 6 (.nilrow 2))] [3, 6])
 (.seq (.seq (K [(J 36 3),(q 37 (.len 36)),(q 38 (.mov (ci 0)))] [6, 36, 37, 38])
 (.block 2 (.loop [6, 36, 37, 38] f7_l1)))
 (.seq (K [(J 77 6),(J 2 77)] [2])
 .ret)))))))
def f7 : VFn := ⟨1, 78, f7_c, [.t 2], true, []⟩
def f8_c : VCode :=
 (.seq (K [(q 2 (.box true 6 0)),(q 4 (.nilrow 4)),(q 5 (.mov (ci 0)))] [1, 2])
 (.seq (K [(q 10 (.load (some 6) 2)),(q 11 (.call (cf 12) [10, (ci 65536)])),(J 9 11),(E 12 9 0),(E 13 9 1),(J 6 12),(J 7 13)] [1, 2, 6, 7])
 (.seq (.seq (K [(J 14 7),(q 15 (.bin .neq 14 (ci 0)))] [1, 2, 6, 7, 15])
 (.cond 15 (.seq (K [(J 16 7),(q 4 (.nilrow 4)),(J 5 16)] [4, 5])
 .ret) .skip))
 (.seq (.seq (K [(J 17 6),(J 18 1),(q 19 (.bin .gtr 17 18)),(J 20 19),⟨(some 21), .mov 6, (some (20, false)), []⟩,⟨(some 22), .bin .gtr 21 (ci 65536), (some (20, false)), []⟩,(q 23 (.pick 20 (.c (.bool true)) 22))] [2, 23])
 (.cond 23 (.seq (K [(q 4 (.nilrow 4)),(q 5 (.mov (ci 100)))] [4, 5])
 .ret) .skip))
 (.seq (.seq (K [(q 24 (.build [(.sl 0 [] true)] [])),(q 25 (.box true 1 24)),(J 8 25)] [2, 8])
 (.virt 8 0 4))
 (.seq (K [(J 26 8),(q 27 (.load (some 6) 2)),(q 28 (.call (cf 18) [26, 27]))] [8])
 (.seq (B [(J 29 8),(q 30 (.nilck 29)),(q 31 (.faddr 0 30)),(q 32 (.load none 31)),(J 33 8),(q 34 (.nilck 33)),(q 35 (.faddr 0 34)),(q 36 (.load none 35)),(q 37 (.len 36)),(J 38 8),(q 39 (.nilck 38)),(q 40 (.faddr 0 39)),(q 41 (.load none 40)),(q 42 (.len 41)),(q 43 (.sl 4 32 none (some 37) (some 42))),(q 44 (.build [(.int .i64 0), (.sl 0 [] true), (.int .i64 0), (.int .i64 0)] [(0, 1, (ci 7))])),(q 45 (.buildRow true 4 1 [(.int .i64 0), (.sl 0 [] true), (.int .i64 0), (.int .i64 0)] [(0, 44)])),(q 46 (.append 4 48 43 45)),(J 4 46),(q 5 (.mov (ci 0)))] [4, 5])
 .ret)))))))
def f8 : VFn := ⟨2, 47, f8_c, [.t 4, .t 5], true, []⟩
def f9_l0 : VCode :=
 (.seq (.seq (K [(J 18 7),(J 19 0),(q 20 (.len 19)),(q 21 (.bin .lss 18 20))] [0, 6, 7, 21])
 (.cond 21 .skip (.exit 0)))
 (.block 1 (.seq (K [(J 23 0),(J 24 7),(q 25 (.call (cf 20) [23, 24])),(J 22 25),(E 26 22 0),(E 27 22 1),(J 8 26),(J 9 27)] [0, 6, 7, 8])
 (.seq (K [(J 28 0),(J 29 7),(q 30 (.iaddr 1 28 29)),(q 31 (.load none 30)),(q 32 (.conv (.toInt .i64) 31)),(J 10 32)] [0, 6, 7, 8, 10])
 (.seq (.seq (K [(J 33 8)] [0, 6, 7, 8, 10, 33])
 (.block 2 (.seq (K [(q 35 (.bin .eql 33 (ci 2))),(J 34 35)] [0, 6, 7, 8, 10, 33, 34])
 (.cond 34 (.reg true [(J 36 0),(J 37 7),(q 38 (.iaddr 1 36 37)),(q 39 (.load none 38)),(q 40 (.conv (.toInt .i64) 39)),(q 41 (.bin .and 40 (ci 31))),(q 42 (.bin .shl 41 (.c (.int .u64 6)))),(J 43 0),(J 44 7),(q 45 (.bin .add 44 (ci 1))),(q 46 (.iaddr 1 43 45)),(q 47 (.load none 46)),(q 48 (.conv (.toInt .i64) 47)),(q 49 (.bin .and 48 (ci 63))),(q 50 (.bin .or 42 49)),(J 10 50)] [0, 6, 7, 8, 10]) (.seq (K [(q 52 (.bin .eql 33 (ci 3))),(J 51 52)] [0, 6, 7, 8, 10, 33, 51])
 (.cond 51 (.reg true [(J 53 0),(J 54 7),(q 55 (.iaddr 1 53 54)),(q 56 (.load none 55)),(q 57 (.conv (.toInt .i64) 56)),(q 58 (.bin .and 57 (ci 15))),(q 59 (.bin .shl 58 (.c (.int .u64 12)))),(J 60 0),(J 61 7),(q 62 (.bin .add 61 (ci 1))),(q 63 (.iaddr 1 60 62)),(q 64 (.load none 63)),(q 65 (.conv (.toInt .i64) 64)),(q 66 (.bin .and 65 (ci 63))),(q 67 (.bin .shl 66 (.c (.int .u64 6)))),(q 68 (.bin .or 59 67)),(J 69 0),(J 70 7),(q 71 (.bin .add 70 (ci 2))),(q 72 (.iaddr 1 69 71)),(q 73 (.load none 72)),(q 74 (.conv (.toInt .i64) 73)),(q 75 (.bin .and 74 (ci 63))),(q 76 (.bin .or 68 75)),(J 10 76)] [0, 6, 7, 8, 10]) (.seq (K [(q 78 (.bin .eql 33 (ci 4))),(J 77 78)] [0, 6, 7, 8, 10, 77])
 (.cond 77 (.reg true [(J 79 0),(J 80 7),(q 81 (.iaddr 1 79 80)),(q 82 (.load none 81)),(q 83 (.conv (.toInt .i64) 82)),(q 84 (.bin .and 83 (ci 7))),(q 85 (.bin .shl 84 (.c (.int .u64 18)))),(J 86 0),(J 87 7),(q 88 (.bin .add 87 (ci 1))),(q 89 (.iaddr 1 86 88)),(q 90 (.load none 89)),(q 91 (.conv (.toInt .i64) 90)),(q 92 (.bin .and 91 (ci 63))),(q 93 (.bin .shl 92 (.c (.int .u64 12)))),(q 94 (.bin .or 85 93)),(J 95 0),(J 96 7),(q 97 (.bin .add 96 (ci 2))),(q 98 (.iaddr 1 95 97)),(q 99 (.load none 98)),(q 100 (.conv (.toInt .i64) 99)),(q 101 (.bin .and 100 (ci 63))),(q 102 (.bin .shl 101 (.c (.int .u64 6)))),(q 103 (.bin .or 94 102)),(J 104 0),(J 105 7),(q 106 (.bin .add 105 (ci 3))),(q 107 (.iaddr 1 104 106)),(q 108 (.load none 107)),(q 109 (.conv (.toInt .i64) 108)),(q 110 (.bin .and 109 (ci 63))),(q 111 (.bin .or 103 110)),(J 10 111)] [0, 6, 7, 8, 10]) .skip))))))))
 (.seq (K [(J 112 6),(J 113 10),(q 114 (.buildRow false 1 1 [(.int .i64 0)] [(0, 113)])),(q 115 (.append 1 8 112 114)),(J 6 115)] [0, 6, 7, 8])
 (.reg false [(J 116 7),(J 117 8),(q 118 (.bin .add 116 117)),(J 7 118)] [0, 6, 7])))))))
def f9_c : VCode :=
 (.seq (K [(q 2 (.nilrow 1)),(q 3 (.mov (ci 0)))] [0])
 (.seq (K [(J 12 0),(q 13 (.call (cf 19) [12])),(J 11 13),(E 14 11 0),(E 15 11 1),(J 4 14),(J 5 15)] [0, 5])
 (.seq (.seq (K [(J 16 5),(q 17 (.un .not 16))] [0, 17])
 (.cond 17 (.seq (K [(q 2 (.nilrow 1)),(q 3 (.mov (ci 10)))] [2, 3])
 .ret) .skip))
 (.seq (K [(q 6 (.nilrow 1))] [0, 6])
 (.seq (.seq (K [(q 7 (.mov (ci 0)))] [0, 6, 7])
 (.block 0 (.loop [0, 6, 7] f9_l0)))
 (.seq (K [(J 119 6),(J 2 119),(q 3 (.mov (ci 0)))] [2, 3])
 .ret))))))
def f9 : VFn := ⟨1, 120, f9_c, [.t 2, .t 3], true, []⟩
def f10_c : VCode :=
 (.seq (K [(q 4 (.mov (.c (.bool false)))),(q 5 (.mov (ci 0))),(q 6 (.mov (ci 0)))] [0, 1])
 (.seq (K [(J 12 0),(J 13 1),(q 14 (.call (cf 21) [12, 13])),(J 11 14),(E 15 11 0),(E 16 11 1),(J 7 15),(J 8 16)] [7, 8])
 (.seq (.seq (K [(J 17 8),(q 18 (.bin .neq 17 (ci 0)))] [7, 8, 18])
 (.cond 18 (.seq (K [(J 19 8),(q 4 (.mov (.c (.bool false)))),(q 5 (.mov (ci 0))),(J 6 19)] [4, 5, 6])
 .ret) .skip))
 (.seq (K [(q 9 (.alloc false [(.bool false)])),(q 10 (.alloc false [(.int .i64 0)])),⟨none, .store false 1 9 (.c (.bool false)), none, []⟩,⟨none, .store false 1 10 (ci 0), none, []⟩] [7, 9, 10])
 (.seq (K [(J 20 7),(q 21 (.mkfunc (.func 23) [] [10, 9])),(q 22 (.call (cf 22) [20, (.c (.bool true)), 21]))] [9, 10])
 (.seq (B [(q 23 (.load none 9)),(q 24 (.load none 10)),(J 4 23),(J 5 24),(q 6 (.mov (ci 0)))] [4, 5, 6])
 .ret))))))
def f10 : VFn := ⟨2, 25, f10_c, [.t 4, .t 5, .t 6], true, []⟩
def f11_c : VCode :=
 (.seq (K [(q 0 (.mov (.c (.bool false))))] [])
 (.seq (K [(q 21 (.call (cf 24) [(.c (.str ⟨#[97, 42]⟩))])),(J 20 21),(E 22 20 0),(E 23 20 1),(q 1 (.alloc true [(.int .i64 0), (.sl 0 [] true), (.int .i64 0), (.int .i64 0), (.bool false), (.sl 0 [] true)])),⟨none, .store true 6 1 22, none, []⟩,(J 2 23)] [1])
 (.seq (K [(q 25 (.load (some 6) 1)),(q 26 (.call (cf 8) [25, (ci 100)])),(J 24 26),(E 27 24 0),(E 28 24 1),(J 3 27),(J 4 28)] [3, 4])
 (.seq (K [(q 30 (.call (cf 24) [(.c (.str ⟨#[97]⟩))])),(J 29 30),(E 31 29 0),(E 32 29 1),(q 5 (.alloc true [(.int .i64 0), (.sl 0 [] true), (.int .i64 0), (.int .i64 0), (.bool false), (.sl 0 [] true)])),⟨none, .store true 6 5 31, none, []⟩,(J 6 32)] [3, 4, 5])
 (.seq (K [(q 34 (.load (some 6) 5)),(q 35 (.call (cf 8) [34, (ci 100)])),(J 33 35),(E 36 33 0),(E 37 33 1),(J 7 36),(J 8 37)] [3, 4, 7, 8])
 (.seq (K [(J 39 3),(q 40 (.call (cf 14) [39, (.c (.str ⟨#[97, 97, 98]⟩))])),(J 38 40),(E 41 38 0),(E 42 38 1),(J 9 41),(J 10 42)] [4, 7, 8, 9, 10])
 (.seq (K [(J 44 7),(q 45 (.call (cf 10) [44, (.c (.str ⟨#[98, 97]⟩))])),(J 43 45),(E 46 43 0),(E 47 43 1),(E 48 43 2),(J 11 46),(J 12 47),(J 13 48)] [4, 7, 8, 9, 10, 11, 12, 13])
 (.seq (K [(q 50 (.call (cf 10) [(.c (.sl 0 [] true)), (.c (.str ⟨#[97]⟩))])),(J 49 50),(E 51 49 0),(E 52 49 1),(E 53 49 2),(J 14 51),(J 15 52),(J 16 53)] [4, 7, 8, 9, 10, 11, 12, 13, 16])
 (.seq (K [(J 55 7),(q 56 (.call (cf 10) [55, (.c (.str ⟨#[255]⟩))])),(J 54 56),(E 57 54 0),(E 58 54 1),(E 59 54 2),(J 17 57),(J 18 58),(J 19 59)] [4, 8, 9, 10, 11, 12, 13, 16, 19])
 (.seq (K [(J 60 4),(q 61 (.bin .eql 60 (ci 0))),(J 62 61),(Z 63 8 62),(Y 64 (.bin .eql 63 (ci 0)) 62),(q 65 (.pick 62 64 (.c (.bool false)))),(J 66 65),(Z 67 10 66),(Y 68 (.bin .eql 67 (ci 0)) 66),(q 69 (.pick 66 68 (.c (.bool false)))),(J 70 69),(Z 71 9 70),(Y 72 (.buildRow false 1 3 [(.int .i64 0)] [(0, (ci 0)), (1, (ci 1)), (2, (ci 2))]) 70),(Y 73 (.call (cf 25) [71, 72]) 70),(q 74 (.pick 70 73 (.c (.bool false)))),(J 75 74),(Z 76 11 75),(q 77 (.pick 75 76 (.c (.bool false)))),(J 78 77),(Z 79 12 78),(Y 80 (.bin .eql 79 (ci 4)) 78),(q 81 (.pick 78 80 (.c (.bool false)))),(J 82 81),(Z 83 13 82),(Y 84 (.bin .eql 83 (ci 0)) 82),(q 85 (.pick 82 84 (.c (.bool false)))),(J 86 85),(Z 87 16 86),(Y 88 (.bin .eql 87 (ci 101)) 86),(q 89 (.pick 86 88 (.c (.bool false)))),(J 90 89),(Z 91 19 90),(Y 92 (.bin .eql 91 (ci 10)) 90),(q 93 (.pick 90 92 (.c (.bool false)))),(J 0 93)] [0])
 .ret))))))))))
def f11 : VFn := ⟨0, 94, f11_c, [.t 0], true, []⟩
def f12_c : VCode :=
 (.seq (K [(q 2 (.box true 6 0)),(q 4 (.mov (ci 0))),(q 5 (.mov (ci 0)))] [1, 2])
 (.seq (.seq (K [(q 7 (.load (some 6) 2)),(q 8 (.call (cf 26) [7])),(J 6 8)] [1, 2, 6])
 (.seq (K [(J 9 6),(q 10 (.bin .neq 9 (ci 0)))] [1, 2, 6, 10])
 (.cond 10 (.seq (K [(J 11 6),(q 4 (.mov (ci 0))),(J 5 11)] [4, 5])
 .ret) .skip)))
 (.seq (.seq (K [(J 12 1),(q 13 (.bin .lss 12 (ci 0)))] [1, 2, 13])
 (.cond 13 (.seq (K [(q 4 (.mov (ci 1))),(q 5 (.mov (ci 0)))] [4, 5])
 .ret) .skip))
 (.seq (K [(J 14 1),(q 15 (.min [14, (ci 1099511627776)])),(J 1 15)] [1, 2])
 (.seq (K [(q 16 (.load (some 6) 2)),(J 17 1),(q 18 (.call (cf 27) [16, 17])),(q 19 (.bin .add 18 (ci 1))),(J 20 1),(q 21 (.bin .add 20 (ci 1))),(q 22 (.min [19, 21])),(J 4 22),(q 5 (.mov (ci 0)))] [4, 5])
 .ret)))))
def f12 : VFn := ⟨2, 23, f12_c, [.t 4, .t 5], true, []⟩
def f13_l0 : VCode :=
 (.seq (.seq (K [(J 5 4),(q 6 (.faddr 5 1)),(q 7 (.load none 6)),(q 8 (.len 7)),(q 9 (.bin .lss 5 8))] [1, 3, 4, 9])
 (.cond 9 .skip (.exit 0)))
 (.seq (.block 1 (.reg false [(J 12 3),(q 13 (.faddr 5 1)),(q 14 (.load none 13)),(J 15 4),(q 16 (.iaddr 6 14 15)),(q 17 (.load (some 6) 16)),(q 18 (.call (cf 13) [17])),(q 19 (.max [12, 18])),(J 3 19)] [1, 3, 4]))
 (.reg false [(J 10 4),(q 11 (.bin .add 10 (ci 1))),(J 4 11)] [1, 3, 4])))
def f13_c : VCode :=
 (.seq (K [(q 1 (.box true 6 0)),(q 2 (.mov (ci 0)))] [1])
 (.seq (K [(q 3 (.mov (ci 0)))] [1, 3])
 (.seq (.seq (K [(q 4 (.mov (ci 0)))] [1, 3, 4])
 (.block 0 (.loop [1, 3, 4] f13_l0)))
 (.seq (K [(J 20 3),(q 21 (.bin .add 20 (ci 1))),(J 2 21)] [2])
 .ret))))
def f13 : VFn := ⟨1, 22, f13_c, [.t 2], true, []⟩
def f14_c : VCode :=
 (.seq (K [(q 4 (.nilrow 1)),(q 5 (.mov (ci 0)))] [0, 1])
 (.seq (K [(J 10 0),(J 11 1),(q 12 (.call (cf 21) [10, 11])),(J 9 12),(E 13 9 0),(E 14 9 1),(J 6 13),(J 7 14)] [6, 7])
 (.seq (.seq (K [(J 15 7),(q 16 (.bin .neq 15 (ci 0)))] [6, 7, 16])
 (.cond 16 (.seq (K [(J 17 7),(q 4 (.nilrow 1)),(J 5 17)] [4, 5])
 .ret) .skip))
 (.seq (.seq (K [(q 8 (.alloc false [(.sl 0 [] true)]))] [6, 8])
 (.virt 8 0 1))
 (.seq (K [(J 18 6),(q 19 (.mkfunc (.func 28) [] [8])),(q 20 (.call (cf 22) [18, (.c (.bool false)), 19]))] [8])
 (.seq (K [(q 21 (.load none 8)),(J 4 21),(q 5 (.mov (ci 0)))] [4, 5])
 .ret))))))
def f14 : VFn := ⟨2, 22, f14_c, [.t 4, .t 5], true, []⟩
def f15_c : VCode :=
 (.seq (K [(J 5 0),(q 6 (.len 5)),(J 4 6)] [0, 1, 4])
 (.reg false [(J 7 0),(J 8 4),(J 9 4),(q 10 (.conv (.toInt .u64) 9)),(q 11 (.call (cf 30) [10])),(J 12 1),(q 13 (.call (cf 29) [7, (ci 0), 8, 11, 12]))] []))
def f15 : VFn := ⟨2, 14, f15_c, [], false, [0]⟩
def f16_c : VCode :=
 (.seq (K [(q 2 (.box true 2 0)),(q 3 (.box true 2 1)),(q 4 (.mov (ci 0)))] [2, 3])
 (.seq (K [(q 5 (.faddr 0 2)),(q 6 (.load none 5)),(q 7 (.faddr 0 3)),(q 8 (.load none 7)),(q 9 (.call (cf 17) [6, 8])),(J 4 9)] [4])
 .ret))
def f16 : VFn := ⟨2, 10, f16_c, [.t 4], true, []⟩
def f17_c : VCode :=
 (.seq (K [(q 4 (.mov (ci 0)))] [0, 1])
 (.seq (K [(J 7 0),(q 8 (.call (cf 31) [7])),(J 5 8)] [0, 1, 5])
 (.seq (K [(J 9 1),(q 10 (.call (cf 31) [9])),(J 6 10)] [0, 1, 5, 6])
 (.seq (.seq (K [(J 11 5)] [0, 1, 6, 11])
 (.cond 11 (.seq (.seq (K [(J 12 6)] [12])
 (.cond 12 (.seq (K [(q 4 (.mov (ci 0)))] [4])
 .ret) .skip))
 (.seq (K [(q 4 (.mov (ci (-1))))] [4])
 .ret)) .skip))
 (.seq (.seq (K [(J 13 6)] [0, 1, 13])
 (.cond 13 (.seq (K [(q 4 (.mov (ci 1)))] [4])
 .ret) .skip))
 (.seq (.seq (K [(J 14 0),(J 15 1),(q 16 (.bin .lss 14 15))] [0, 1, 16])
 (.cond 16 (.seq (K [(q 4 (.mov (ci (-1))))] [4])
 .ret) .skip))
 (.seq (.seq (K [(J 17 0),(J 18 1),(q 19 (.bin .gtr 17 18))] [19])
 (.cond 19 (.seq (K [(q 4 (.mov (ci 1)))] [4])
 .ret) .skip))
 (.seq (K [(q 4 (.mov (ci 0)))] [4])
 .ret))))))))
def f17 : VFn := ⟨2, 20, f17_c, [.t 4], true, []⟩
def f18_l0 : VCode :=
 (.seq (K [(q 48 (.bin .lss 47 46))] [0, 45, 46, 47, 48])
 (.seq (.cond 48 .skip (.exit 1))
 (.seq (.block 2 (.seq (K [(q 49 (.iaddr 6 45 47)),(q 50 (.load (some 6) 49)),(q 5 (.alloc true [(.int .i64 0), (.sl 0 [] true), (.int .i64 0), (.int .i64 0), (.bool false), (.sl 0 [] true)])),⟨none, .store true 6 5 50, none, []⟩] [0, 5, 45, 46, 47])
 (.reg false [(J 51 0),(q 52 (.load (some 6) 5)),(q 53 (.call (cf 18) [51, 52]))] [0, 45, 46, 47])))
 (.reg false [(q 54 (.bin .add 47 (ci 1))),(J 47 54)] [0, 45, 46, 47]))))
def f18_l1 : VCode :=
 (.seq (K [(q 61 (.bin .lss 60 59))] [0, 3, 6, 58, 59, 60, 61])
 (.seq (.cond 61 .skip (.exit 3))
 (.seq (.block 4 (.seq (K [(J 62 60),(q 63 (.iaddr 6 58 60)),(q 64 (.load (some 6) 63)),(q 8 (.alloc true [(.int .i64 0), (.sl 0 [] true), (.int .i64 0), (.int .i64 0), (.bool false), (.sl 0 [] true)])),(J 7 62),⟨none, .store true 6 8 64, none, []⟩] [0, 3, 6, 7, 8, 58, 59, 60])
 (.seq (.seq (K [(J 65 7),(q 66 (.faddr 5 3)),(q 67 (.load none 66)),(q 68 (.len 67)),(q 69 (.bin .sub 68 (ci 1))),(q 70 (.bin .eql 65 69))] [0, 3, 6, 8, 58, 59, 60, 70])
 (.cond 70 (.seq (K [(J 71 0),(q 72 (.load (some 6) 8)),(q 73 (.call (cf 18) [71, 72]))] [0, 6])
 (.exit 3)) .skip))
 (.seq (K [(J 74 0),(q 75 (.call (cf 34) [74])),(J 9 75)] [0, 3, 6, 8, 9, 58, 59, 60])
 (.seq (K [(J 76 0),(q 77 (.load (some 6) 8)),(q 78 (.call (cf 18) [76, 77]))] [0, 3, 6, 9, 58, 59, 60])
 (.seq (K [(J 79 6),(J 80 0),(q 81 (.call (cf 35) [80])),(q 82 (.buildRow false 1 1 [.nilf] [(0, 81)])),(q 83 (.append 1 8 79 82)),(J 6 83)] [0, 3, 6, 9, 58, 59, 60])
 (.reg false [(J 84 9),(q 85 (.call 84 []))] [0, 3, 6, 58, 59, 60])))))))
 (.reg false [(q 86 (.bin .add 60 (ci 1))),(J 60 86)] [0, 3, 6, 58, 59, 60]))))
def f18_l2 : VCode :=
 (.seq (K [(q 90 (.bin .lss 89 88))] [0, 87, 88, 89, 90])
 (.seq (.cond 90 .skip (.exit 5))
 (.seq (.block 6 (.seq (K [(q 91 (.iaddr 1 87 89)),(q 92 (.load none 91)),(J 11 92)] [0, 11, 87, 88, 89])
 (.reg false [(J 93 11),(J 94 0),(q 95 (.nilck 94)),(q 96 (.faddr 0 95)),(q 97 (.load none 96)),(q 98 (.len 97)),(q 99 (.call 93 [98]))] [0, 87, 88, 89])))
 (.reg false [(q 100 (.bin .add 89 (ci 1))),(J 89 100)] [0, 87, 88, 89]))))
def f18_c : VCode :=
 (.seq (K [(q 3 (.box true 6 1))] [0, 3])
 (.seq (K [(q 12 (.faddr 0 3)),(q 13 (.load none 12))] [0, 3, 13])
 (.block 0 (.seq (K [(q 15 (.bin .eql 13 (ci 2))),(J 14 15)] [0, 3, 13, 14])
 (.cond 14 (.reg false [(J 16 0),(q 17 (.faddr 1 3)),(q 18 (.load none 17)),(q 19 (.call (cf 33) [18])),(q 20 (.build [(.int .i64 0), (.sl 0 [] true), (.int .i64 0), (.int .i64 0)] [(0, 1, (ci 1)), (1, 1, 19)])),(q 21 (.call (cf 32) [16, 20]))] []) (.seq (K [(q 23 (.bin .eql 13 (ci 6))),(J 22 23)] [0, 3, 13, 22])
 (.cond 22 (.reg false [(J 24 0),(q 25 (.build [(.int .i64 0), (.sl 0 [] true), (.int .i64 0), (.int .i64 0)] [(0, 1, (ci 3))])),(q 26 (.call (cf 32) [24, 25]))] []) (.seq (K [(q 28 (.bin .eql 13 (ci 7))),(J 27 28)] [0, 3, 13, 27])
 (.cond 27 (.reg false [(J 29 0),(q 30 (.build [(.int .i64 0), (.sl 0 [] true), (.int .i64 0), (.int .i64 0)] [(0, 1, (ci 4))])),(q 31 (.call (cf 32) [29, 30]))] []) (.seq (K [(q 33 (.bin .eql 13 (ci 8))),(J 32 33)] [0, 3, 13, 32])
 (.cond 32 (.reg false [(J 34 0),(q 35 (.build [(.int .i64 0), (.sl 0 [] true), (.int .i64 0), (.int .i64 0)] [(0, 1, (ci 5))])),(q 36 (.call (cf 32) [34, 35]))] []) (.seq (K [(q 38 (.bin .eql 13 (ci 9))),(J 37 38)] [0, 3, 13, 37])
 (.cond 37 (.reg false [(J 39 0),(q 40 (.build [(.int .i64 0), (.sl 0 [] true), (.int .i64 0), (.int .i64 0)] [(0, 1, (ci 6))])),(q 41 (.call (cf 32) [39, 40]))] []) (.seq (K [(q 43 (.bin .eql 13 (ci 3))),(J 42 43)] [0, 3, 13, 42])
 (.cond 42 (.seq (K [(q 44 (.faddr 5 3)),(q 45 (.load none 44)),(q 46 (.len 45)),(q 47 (.mov (ci 0)))] [0, 45, 46, 47])
 (.block 1 (.loop [0, 45, 46, 47] f18_l0))) (.seq (K [(q 56 (.bin .eql 13 (ci 4))),(J 55 56)] [0, 3, 13, 55])
 (.cond 55 (.seq (K [(q 6 (.nilrow 1))] [0, 3, 6])
 (.seq (.seq (K [(q 57 (.faddr 5 3)),(q 58 (.load none 57)),(q 59 (.len 58)),(q 60 (.mov (ci 0)))] [0, 3, 6, 58, 59, 60])
 (.block 3 (.loop [0, 3, 6, 58, 59, 60] f18_l1)))
 (.seq (K [(J 87 6),(q 88 (.len 87)),(q 89 (.mov (ci 0)))] [0, 87, 88, 89])
 (.block 5 (.loop [0, 87, 88, 89] f18_l2))))) (.seq (K [(q 102 (.bin .eql 13 (ci 5))),(J 101 102)] [0, 3, 101])
 (.cond 101 (.reg false [(J 103 0),(q 104 (.load (some 6) 3)),(q 105 (.call (cf 36) [103, 104]))] []) .skip)))))))))))))))))))
def f18 : VFn := ⟨2, 106, f18_c, [], true, []⟩
def f19_l0 : VCode :=
 (.seq (.seq (K [(J 7 4),(J 8 0),(q 9 (.len 8)),(q 10 (.bin .lss 7 9))] [0, 4, 10])
 (.cond 10 .skip (.exit 0)))
 (.block 1 (.seq (K [(J 12 0),(J 13 4),(q 14 (.call (cf 20) [12, 13])),(J 11 14),(E 15 11 0),(E 16 11 1),(J 5 15),(J 6 16)] [0, 4, 5, 6])
 (.seq (K [(J 17 4),(J 18 5),(q 19 (.bin .add 17 18)),(J 4 19)] [0, 4, 6])
 (.seq (K [(J 20 6),(q 21 (.un .not 20))] [0, 4, 21])
 (.cond 21 (.seq (K [(J 22 4),(J 2 22),(q 3 (.mov (.c (.bool false))))] [2, 3])
 .ret) .skip))))))
def f19_c : VCode :=
 (.seq (K [(q 2 (.mov (ci 0))),(q 3 (.mov (.c (.bool false))))] [0])
 (.seq (K [(q 4 (.mov (ci 0)))] [0, 4])
 (.seq (.block 0 (.loop [0, 4] f19_l0))
 (.seq (K [(J 23 4),(J 2 23),(q 3 (.mov (.c (.bool true))))] [2, 3])
 .ret))))
def f19 : VFn := ⟨1, 24, f19_c, [.t 2, .t 3], true, []⟩
def f20_l0 : VCode :=
 (.seq (.seq (K [(J 16 7),(J 17 6),(q 18 (.bin .lss 16 17))] [0, 1, 6, 7, 18])
 (.cond 18 .skip (.exit 0)))
 (.seq (.block 1 (.seq (.seq (K [(J 21 1),(J 22 7),(q 23 (.bin .add 21 22)),(J 24 0),(q 25 (.len 24)),(q 26 (.bin .eql 23 25))] [0, 1, 6, 7, 26])
 (.cond 26 (.seq (K [(J 27 7),(J 4 27),(q 5 (.mov (.c (.bool false))))] [4, 5])
 .ret) .skip))
 (.seq (K [(J 28 0),(J 29 1),(J 30 7),(q 31 (.bin .add 29 30)),(q 32 (.iaddr 1 28 31)),(q 33 (.load none 32)),(J 8 33)] [0, 1, 6, 7, 8])
 (.seq (K [(J 34 7),(q 35 (.bin .eql 34 (ci 1))),(J 36 35),(Z 37 0 36),(Z 38 1 36),(Y 39 (.iaddr 1 37 38) 36),(Y 40 (.load none 39) 36),(Z 41 8 36),(Y 42 (.call (cf 38) [40, 41]) 36),(Y 43 (.un .not 42) 36),(q 44 (.pick 36 43 (.c (.bool false)))),(J 45 44),⟨(some 46), .mov 7, (some (45, false)), []⟩,⟨(some 47), .bin .gtr 46 (ci 1), (some (45, false)), []⟩,⟨(some 48), .mov 47, (some (45, false)), []⟩,(Z 49 8 48),(Y 50 (.bin .lss 49 (.c (.int .u8 128))) 48),(Z 51 50 48),⟨(some 52), .mov 8, (some (51, false)), []⟩,⟨(some 53), .bin .gtr 52 (.c (.int .u8 191)), (some (51, false)), []⟩,(Y 54 (.pick 51 (.c (.bool true)) 53) 48),⟨(some 55), .pick 48 54 (.c (.bool false)), (some (45, false)), []⟩,(q 56 (.pick 45 (.c (.bool true)) 55))] [0, 1, 6, 7, 56])
 (.cond 56 (.seq (K [(J 57 7),(J 4 57),(q 5 (.mov (.c (.bool false))))] [4, 5])
 .ret) .skip)))))
 (.reg false [(J 19 7),(q 20 (.bin .add 19 (ci 1))),(J 7 20)] [0, 1, 6, 7])))
def f20_c : VCode :=
 (.seq (K [(q 4 (.mov (ci 0))),(q 5 (.mov (.c (.bool false))))] [0, 1])
 (.seq (K [(J 9 0),(J 10 1),(q 11 (.iaddr 1 9 10)),(q 12 (.load none 11)),(q 13 (.call (cf 37) [12])),(J 6 13)] [0, 1, 6])
 (.seq (.seq (K [(J 14 6),(q 15 (.bin .eql 14 (ci 0)))] [0, 1, 6, 15])
 (.cond 15 (.seq (K [(q 4 (.mov (ci 0))),(q 5 (.mov (.c (.bool false))))] [4, 5])
 .ret) .skip))
 (.seq (.seq (K [(q 7 (.mov (ci 1)))] [0, 1, 6, 7])
 (.block 0 (.loop [0, 1, 6, 7] f20_l0)))
 (.seq (K [(J 58 6),(J 4 58),(q 5 (.mov (.c (.bool true))))] [4, 5])
 .ret)))))
def f20 : VFn := ⟨2, 59, f20_c, [.t 4, .t 5], true, []⟩
def f21_c : VCode :=
 (.seq (K [(q 4 (.mov (.c .nilp))),(q 5 (.mov (ci 0)))] [0, 1])
 (.seq (.seq (K [(J 9 0),(q 10 (.call (cf 39) [9])),(J 6 10)] [0, 1, 6])
 (.seq (K [(J 11 6),(q 12 (.bin .neq 11 (ci 0)))] [0, 1, 6, 12])
 (.cond 12 (.seq (K [(J 13 6),(q 4 (.mov (.c .nilp))),(J 5 13)] [4, 5])
 .ret) .skip)))
 (.seq (K [(J 15 1),(q 16 (.conv .strToBytes 15)),(q 17 (.call (cf 40) [16])),(J 14 17),(E 18 14 0),(E 19 14 1),(J 7 18),(J 8 19)] [0, 7, 8])
 (.seq (K [(J 20 0),(J 21 7),(q 22 (.build [(.sl 0 [] true), (.sl 0 [] true)] [(0, 1, 20), (1, 1, 21)])),(q 23 (.box true 2 22)),(J 24 8),(J 4 23),(J 5 24)] [4, 5])
 .ret))))
def f21 : VFn := ⟨2, 25, f21_c, [.t 4, .t 5], true, []⟩
def f22_l0 : VCode :=
 (.seq (.seq (K [(J 11 7),(J 12 0),(q 13 (.nilck 12)),(q 14 (.faddr 1 13)),(q 15 (.load none 14)),(q 16 (.len 15)),(q 17 (.bin .leq 11 16))] [0, 1, 2, 6, 7, 17])
 (.cond 17 .skip (.exit 0)))
 (.seq (.block 1 (.seq (K [(J 21 0),(J 22 6),(J 23 7),(q 24 (.call (cf 41) [21, 22, 23])),(J 20 24),(E 25 20 0),(E 26 20 1),(J 8 25),(J 9 26)] [0, 1, 2, 7, 8, 9])
 (.seq (.seq (K [(J 27 2),(J 28 7),(J 29 8),(q 30 (.len 29)),(J 31 9),(q 32 (.call 27 [28, 30, 31])),(q 33 (.un .not 32)),(J 34 33),⟨(some 35), .mov 7, (some (34, false)), []⟩,⟨(some 36), .mov 0, (some (34, false)), []⟩,⟨(some 37), .nilck 36, (some (34, false)), []⟩,⟨(some 38), .faddr 1 37, (some (34, false)), []⟩,⟨(some 39), .load none 38, (some (34, false)), []⟩,⟨(some 40), .len 39, (some (34, false)), []⟩,⟨(some 41), .bin .eql 35 40, (some (34, false)), []⟩,(q 42 (.pick 34 (.c (.bool true)) 41))] [0, 1, 2, 7, 8, 42])
 (.cond 42 .ret .skip))
 (.seq (K [(J 43 0),(J 44 8),(J 45 0),(q 46 (.nilck 45)),(q 47 (.faddr 1 46)),(q 48 (.load none 47)),(J 49 7),(q 50 (.iaddr 1 48 49)),(q 51 (.load none 50)),(q 52 (.call (cf 42) [43, 44, 51])),(J 6 52)] [0, 1, 2, 6, 7])
 (.seq (K [(J 53 1)] [0, 1, 2, 6, 7, 53])
 (.cond 53 (.reg false [(J 54 6),(q 55 (.buildRow false 1 1 [(.int .i64 0)] [(0, (ci 0))])),(q 56 (.append 1 8 54 55)),(J 6 56)] [0, 1, 2, 6, 7]) .skip))))))
 (.reg false [(J 18 7),(q 19 (.bin .add 18 (ci 1))),(J 7 19)] [0, 1, 2, 6, 7])))
def f22_c : VCode :=
 (.seq (K [(q 10 (.buildRow false 1 1 [(.int .i64 0)] [(0, (ci 0))])),(J 6 10)] [0, 1, 2, 6])
 (.seq (K [(q 7 (.mov (ci 0)))] [0, 1, 2, 6, 7])
 (.block 0 (.loop [0, 1, 2, 6, 7] f22_l0))))
def f22 : VFn := ⟨3, 57, f22_c, [], true, []⟩
def f23_c : VCode :=
 (.seq (K [(q 8 (.mov (.c (.bool false))))] [1, 2, 3, 4])
 (.seq (K [(q 9 (.load none 3)),(J 10 1),(q 11 (.bin .add 9 10)),⟨none, .store false 1 3 11, none, []⟩] [2, 4])
 (.seq (K [(J 12 2),⟨none, .store false 1 4 12, none, []⟩] [2])
 (.seq (K [(J 13 2),(q 14 (.un .not 13)),(J 8 14)] [8])
 .ret))))
def f23 : VFn := ⟨5, 15, f23_c, [.t 8], true, []⟩
def d24 : VDef := ⟨[(.reg false [(q 2 (.alloc true [(.int .i64 0), (.sl 0 [] true), (.int .i64 0), (.int .i64 0), (.bool false), (.sl 0 [] true)])),(q 3 (.alloc false [(.int .i64 0)]))] [0, 2, 3]),(.reg false [(J 8 0),(q 9 (.conv .strToBytes 8)),(q 10 (.call (cf 40) [9])),(J 7 10),(E 11 7 0),(E 12 7 1),(J 4 11),(J 5 12)] [0, 2, 3, 4, 5]),(.seq (K [(J 13 5),(q 14 (.bin .neq 13 (ci 0))),(J 15 14),⟨(some 16), .mov 0, (some (15, false)), []⟩,⟨(some 17), .lens 16, (some (15, false)), []⟩,⟨(some 18), .bin .gtr 17 (ci 4096), (some (15, false)), []⟩,(q 19 (.pick 15 (.c (.bool true)) 18))] [2, 3, 4, 19])
 (.cond 19 (.seq (K [(q 20 (.build [(.int .i64 0), (.sl 0 [] true), (.int .i64 0), (.int .i64 0), (.bool false), (.sl 0 [] true)] [])),⟨none, .store true 6 2 20, none, []⟩,⟨none, .store false 1 3 (ci 90), none, []⟩] [2, 3])
 .ret) .skip))],
 .mkfunc (.func 43) [] [2, 3], 21,(.seq (K [(J 22 4),(q 23 (.build [(.sl 0 [] true), (.int .i64 0)] [(0, 1, 22)])),(q 24 (.box true 2 23)),(J 6 24)] [2, 3, 6])
 (.seq (K [(J 25 6),(q 26 (.call (cf 44) [25])),⟨none, .store true 6 2 26, none, []⟩] [2, 3, 6])
 (.seq (K [(J 27 6),(q 28 (.nilck 27)),(q 29 (.faddr 0 28)),(q 30 (.load none 29)),(q 31 (.len 30)),(q 32 (.bin .eql 31 (ci 0))),(q 33 (.call (cf 45) [32]))] [2, 3])
 (.seq (K [(q 34 (.load (some 6) 2)),⟨none, .store true 6 2 34, none, []⟩,⟨none, .store false 1 3 (ci 0), none, []⟩] [2, 3])
 .ret)))),⟨1, 35, .skip, [.c 2 (some 6), .c 3 none], true, []⟩, 43, 5,(.block 0 (.seq (K [(q 7 (.isnil .iface false 5))] [0, 1, 5, 7])
 (.cond 7 (.reg false [(J 2 5)] []) (.seq (K [(q 8 (.assert 92 (.agg []) 5 true)),(E 9 8 1),(E 10 8 0)] [0, 1, 5, 9, 10])
 (.cond 9 (.seq (K [(q 3 (.alloc true [])),⟨none, .store true 0 3 10, none, []⟩] [0, 1])
 (.reg false [(q 11 (.build [(.int .i64 0), (.sl 0 [] true), (.int .i64 0), (.int .i64 0), (.bool false), (.sl 0 [] true)] [])),⟨none, .store true 6 0 11, none, []⟩,⟨none, .store false 1 1 (ci 90), none, []⟩] [])) (.seq (K [(J 4 5)] [4])
 (.reg false [(J 6 4),⟨none, .panic 6, none, []⟩] []))))))), ⟨2, 12, .skip, [], true, []⟩⟩
def f25_l0 : VCode :=
 (.seq (.seq (K [(J 11 5),(J 12 0),(q 13 (.len 12)),(q 14 (.bin .lss 11 13))] [0, 1, 5, 14])
 (.cond 14 .skip (.exit 0)))
 (.seq (.block 1 (.seq (B [(J 17 0),(J 18 5),(q 19 (.iaddr 1 17 18)),(q 20 (.load none 19)),(J 21 1),(J 22 5),(q 23 (.iaddr 1 21 22)),(q 24 (.load none 23)),(q 25 (.bin .neq 20 24))] [0, 1, 5, 25])
 (.cond 25 (.seq (K [(q 4 (.mov (.c (.bool false))))] [4])
 .ret) .skip)))
 (.reg false [(J 15 5),(q 16 (.bin .add 15 (ci 1))),(J 5 16)] [0, 1, 5])))
def f25_c : VCode :=
 (.seq (K [(q 4 (.mov (.c (.bool false))))] [0, 1])
 (.seq (.seq (K [(J 6 0),(q 7 (.len 6)),(J 8 1),(q 9 (.len 8)),(q 10 (.bin .neq 7 9))] [0, 1, 10])
 (.cond 10 (.seq (K [(q 4 (.mov (.c (.bool false))))] [4])
 .ret) .skip))
 (.seq (.seq (K [(q 5 (.mov (ci 0)))] [0, 1, 5])
 (.block 0 (.loop [0, 1, 5] f25_l0)))
 (.seq (K [(q 4 (.mov (.c (.bool true))))] [4])
 .ret))))
def f25 : VFn := ⟨2, 26, f25_c, [.t 4], true, []⟩
def f26_c : VCode :=
 (.seq (K [(q 1 (.box true 6 0)),(q 2 (.mov (ci 0)))] [1])
 (.seq (.seq (K [(q 3 (.load (some 6) 1)),(q 4 (.call (cf 46) [3, (ci 1000)])),(q 5 (.un .not 4))] [5])
 (.cond 5 (.seq (K [(q 2 (.mov (ci 91)))] [2])
 .ret) .skip))
 (.seq (K [(q 2 (.mov (ci 0)))] [2])
 .ret)))
def f26 : VFn := ⟨1, 6, f26_c, [.t 2], true, []⟩
def f27_l0 : VCode :=
 (.seq (K [(q 12 (.bin .lss 11 10))] [1, 2, 5, 9, 10, 11, 12])
 (.seq (.cond 12 .skip (.exit 0))
 (.seq (.block 1 (.seq (K [(q 13 (.iaddr 6 9 11)),(q 14 (.load (some 6) 13)),(q 7 (.alloc true [(.int .i64 0), (.sl 0 [] true), (.int .i64 0), (.int .i64 0), (.bool false), (.sl 0 [] true)])),⟨none, .store true 6 7 14, none, []⟩] [1, 2, 5, 7, 9, 10, 11])
 (.reg false [(J 15 5),(q 16 (.load (some 6) 7)),(J 17 1),(q 18 (.call (cf 27) [16, 17])),(q 19 (.bin .add 15 18)),(J 20 1),(q 21 (.min [19, 20])),(J 5 21)] [1, 2, 5, 9, 10, 11])))
 (.reg false [(q 22 (.bin .add 11 (ci 1))),(J 11 22)] [1, 2, 5, 9, 10, 11]))))
def f27_c : VCode :=
 (.seq (K [(q 2 (.box true 6 0)),(q 4 (.mov (ci 0)))] [1, 2])
 (.seq (K [(q 5 (.mov (ci 0)))] [1, 2, 5])
 (.seq (.seq (K [(q 8 (.faddr 5 2)),(q 9 (.load none 8)),(q 10 (.len 9)),(q 11 (.mov (ci 0)))] [1, 2, 5, 9, 10, 11])
 (.block 0 (.loop [1, 2, 5, 9, 10, 11] f27_l0)))
 (.seq (.seq (K [(q 23 (.faddr 0 2)),(q 24 (.load none 23))] [1, 2, 5, 24])
 (.block 2 (.seq (.seq (K [(q 28 (.bin .eql 24 (ci 1))),(J 27 28)] [1, 2, 5, 24, 27])
 (.cond 27 .skip (.reg false [(q 29 (.bin .eql 24 (ci 3))),(J 27 29)] [1, 2, 5, 24, 27])))
 (.cond 27 .skip (.seq (K [(q 31 (.bin .eql 24 (ci 4))),(J 30 31)] [1, 2, 5, 24, 30])
 (.cond 30 (.reg false [(J 32 5),(q 33 (.faddr 5 2)),(q 34 (.load none 33)),(q 35 (.len 34)),(q 36 (.bin .sub 35 (ci 1))),(q 37 (.bin .mul (ci 2) 36)),(q 38 (.bin .add 32 37)),(J 5 38)] [1, 5]) (.seq (K [(q 40 (.bin .eql 24 (ci 5))),(J 39 40)] [1, 2, 5, 39])
 (.cond 39 (.seq (K [(q 41 (.faddr 3 2)),(q 42 (.load none 41)),(q 43 (.bin .lss 42 (ci 0)))] [1, 2, 5, 43])
 (.cond 43 (.reg false [(q 44 (.faddr 2 2)),(q 45 (.load none 44)),(J 46 5),(q 47 (.bin .mul 45 46)),(J 48 5),(q 49 (.bin .add 47 48)),(q 50 (.bin .add 49 (ci 2))),(J 5 50)] [1, 5]) (.reg false [(q 51 (.faddr 2 2)),(q 52 (.load none 51)),(J 53 5),(q 54 (.bin .mul 52 53)),(q 55 (.faddr 3 2)),(q 56 (.load none 55)),(q 57 (.faddr 2 2)),(q 58 (.load none 57)),(q 59 (.bin .sub 56 58)),(J 60 5),(q 61 (.bin .add 60 (ci 1))),(q 62 (.bin .mul 59 61)),(q 63 (.bin .add 54 62)),(J 5 63)] [1, 5]))) (.reg false [(J 25 5),(q 26 (.bin .add 25 (ci 1))),(J 5 26)] [1, 5])))))))))
 (.seq (K [(J 64 5),(J 65 1),(q 66 (.min [64, 65])),(J 4 66)] [4])
 .ret)))))
def f27 : VFn := ⟨2, 67, f27_c, [.t 4], true, []⟩
def f28_c : VCode :=
 (.seq (K [(q 7 (.mov (.c (.bool false))))] [0, 2, 3])
 (.seq (.seq (K [(J 8 2)] [0, 3, 8])
 (.cond 8 (.reg false [(q 9 (.load none 3)),(J 10 0),(q 11 (.buildRow false 1 1 [(.int .i64 0)] [(0, 10)])),(q 12 (.append 1 8 9 11)),⟨none, .store false 1 3 12, none, []⟩] []) .skip))
 (.seq (K [(q 7 (.mov (.c (.bool true))))] [7])
 .ret)))
def f28 : VFn := ⟨4, 13, f28_c, [.t 7], true, []⟩
def f29_l0 : VCode :=
 (.block 1 (.seq (K [(J 21 2),(J 22 1),(q 23 (.bin .sub 21 22)),(J 12 23)] [0, 1, 2, 3, 4, 10, 11, 12])
 (.seq (.seq (K [(J 24 12),(q 25 (.bin .leq 24 (ci 12)))] [0, 1, 2, 3, 4, 10, 11, 12, 25])
 (.cond 25 (.seq (K [(J 26 0),(J 27 1),(J 28 2),(J 29 4),(q 30 (.call (cf 47) [26, 27, 28, 29]))] [])
 .ret) .skip))
 (.seq (.seq (K [(J 31 3),(q 32 (.bin .eql 31 (ci 0)))] [0, 1, 2, 3, 4, 10, 11, 12, 32])
 (.cond 32 (.seq (K [(J 33 0),(J 34 1),(J 35 2),(J 36 4),(q 37 (.call (cf 48) [33, 34, 35, 36]))] [])
 .ret) .skip))
 (.seq (.seq (K [(J 38 10),(q 39 (.un .not 38))] [0, 1, 2, 3, 4, 10, 11, 12, 39])
 (.cond 39 (.seq (K [(J 40 0),(J 41 1),(J 42 2),(J 43 4),(q 44 (.call (cf 49) [40, 41, 42, 43]))] [0, 1, 2, 3, 4, 10, 11, 12])
 (.reg false [(J 45 3),(q 46 (.bin .sub 45 (ci 1))),(J 3 46)] [0, 1, 2, 3, 4, 10, 11, 12])) .skip))
 (.seq (K [(J 48 0),(J 49 1),(J 50 2),(J 51 4),(q 52 (.call (cf 50) [48, 49, 50, 51])),(J 47 52),(E 53 47 0),(E 54 47 1),(J 13 53),(J 14 54)] [0, 1, 2, 3, 4, 10, 11, 12, 13, 14])
 (.seq (.seq (K [(J 55 14),(q 56 (.bin .eql 55 (ci 2)))] [0, 1, 2, 3, 4, 10, 11, 12, 13, 14, 56])
 (.cond 56 (.seq (K [(J 57 0),(J 58 1),(J 59 2),(J 60 4),(q 61 (.call (cf 51) [57, 58, 59, 60]))] [0, 1, 2, 3, 4, 10, 11, 12, 13])
 (.seq (K [(J 62 2),(q 63 (.bin .sub 62 (ci 1))),(J 64 13),(J 65 1),(q 66 (.bin .sub 64 65)),(q 67 (.bin .sub 63 66)),(J 13 67)] [0, 1, 2, 3, 4, 10, 11, 12, 13])
 (.reg false [(q 14 (.mov (ci 1)))] [0, 1, 2, 3, 4, 10, 11, 12, 13, 14]))) .skip))
 (.seq (.seq (K [(J 68 10),(J 69 68),(Z 70 11 69),(q 71 (.pick 69 70 (.c (.bool false)))),(J 72 71),(Z 73 14 72),(Y 74 (.bin .eql 73 (ci 1)) 72),(q 75 (.pick 72 74 (.c (.bool false))))] [0, 1, 2, 3, 4, 10, 11, 12, 13, 75])
 (.cond 75 (.seq (K [(J 76 0),(J 77 1),(J 78 2),(J 79 4),(q 80 (.call (cf 52) [76, 77, 78, 79]))] [0, 1, 2, 3, 4, 10, 11, 12, 13, 80])
 (.cond 80 .ret .skip)) .skip))
 (.seq (.seq (B [(J 81 1),(q 82 (.bin .gtr 81 (ci 0))),(J 83 82),(Z 84 4 83),(Z 85 0 83),(Z 86 1 83),(Y 87 (.bin .sub 86 (ci 1)) 83),(Y 88 (.iaddr 2 85 87) 83),(Y 89 (.load (some 2) 88) 83),(Z 90 0 83),(Z 91 13 83),(Y 92 (.iaddr 2 90 91) 83),(Y 93 (.load (some 2) 92) 83),(Y 94 (.call 84 [89, 93]) 83),(Y 95 (.bin .lss 94 (ci 0)) 83),(Y 96 (.un .not 95) 83),(q 97 (.pick 83 96 (.c (.bool false))))] [0, 1, 2, 3, 4, 10, 11, 12, 13, 97])
 (.cond 97 (.seq (K [(J 98 0),(J 99 1),(J 100 2),(J 101 13),(J 102 4),(q 103 (.call (cf 53) [98, 99, 100, 101, 102])),(J 15 103)] [0, 2, 3, 4, 10, 11, 15])
 (.seq (K [(J 104 15),(J 1 104)] [0, 1, 2, 3, 4, 10, 11])
 (.exit 1))) .skip))
 (.seq (K [(J 106 0),(J 107 1),(J 108 2),(J 109 13),(J 110 4),(q 111 (.call (cf 54) [106, 107, 108, 109, 110])),(J 105 111),(E 112 105 0),(E 113 105 1),(J 16 112),(J 17 113)] [0, 1, 2, 3, 4, 12, 16, 17])
 (.seq (K [(J 114 17),(J 11 114)] [0, 1, 2, 3, 4, 11, 12, 16])
 (.seq (K [(J 115 16),(J 116 1),(q 117 (.bin .sub 115 116)),(J 118 2),(J 119 16),(q 120 (.bin .sub 118 119)),(J 18 117),(J 19 120)] [0, 1, 2, 3, 4, 11, 12, 16, 18, 19])
 (.seq (K [(J 121 12),(q 122 (.bin .quo 121 (ci 8))),(J 20 122)] [0, 1, 2, 3, 4, 11, 16, 18, 19, 20])
 (.seq (K [(J 123 18),(J 124 19),(q 125 (.bin .lss 123 124))] [0, 1, 2, 3, 4, 11, 16, 18, 19, 20, 125])
 (.cond 125 (.seq (K [(J 126 18),(J 127 20),(q 128 (.bin .geq 126 127)),(J 10 128)] [0, 1, 2, 3, 4, 10, 11, 16])
 (.seq (K [(J 129 0),(J 130 1),(J 131 16),(J 132 3),(J 133 4),(q 134 (.call (cf 29) [129, 130, 131, 132, 133]))] [0, 2, 3, 4, 10, 11, 16])
 (.reg false [(J 135 16),(q 136 (.bin .add 135 (ci 1))),(J 1 136)] [0, 1, 2, 3, 4, 10, 11]))) (.seq (K [(J 137 19),(J 138 20),(q 139 (.bin .geq 137 138)),(J 10 139)] [0, 1, 2, 3, 4, 10, 11, 16])
 (.seq (K [(J 140 0),(J 141 16),(q 142 (.bin .add 141 (ci 1))),(J 143 2),(J 144 3),(J 145 4),(q 146 (.call (cf 29) [140, 142, 143, 144, 145]))] [0, 1, 3, 4, 10, 11, 16])
 (.reg false [(J 147 16),(J 2 147)] [0, 1, 2, 3, 4, 10, 11]))))))))))))))))))
def f29_c : VCode :=
 (.seq (K [(q 10 (.mov (.c (.bool true))))] [0, 1, 2, 3, 4, 10])
 (.seq (K [(q 11 (.mov (.c (.bool true))))] [0, 1, 2, 3, 4, 10, 11])
 (.block 0 (.loop [0, 1, 2, 3, 4, 10, 11] f29_l0))))
def f29 : VFn := ⟨5, 148, f29_c, [], false, [0]⟩
def f30_c : VCode :=
 (.seq (K [(q 2 (.mov (ci 0)))] [0])
 (.seq (.cond (.c (.bool false)) (.seq (K [(J 3 0),(q 4 (.conv (.toInt .u32) 3)),(q 5 (.call (cf 55) [4])),(J 2 5)] [2])
 .ret) .skip)
 (.seq (K [(J 6 0),(q 7 (.call (cf 56) [6])),(J 2 7)] [2])
 .ret)))
def f30 : VFn := ⟨1, 8, f30_c, [.t 2], true, []⟩
def f31_c : VCode :=
 (.seq (K [(q 2 (.mov (.c (.bool false))))] [0])
 (.seq (K [(J 3 0),(J 4 0),(q 5 (.bin .neq 3 4)),(J 2 5)] [2])
 .ret))
def f31 : VFn := ⟨1, 6, f31_c, [.t 2], true, []⟩
def f32_c : VCode :=
 (.seq (K [(q 3 (.box true 4 1)),(q 4 (.mov (ci 0)))] [0, 3])
 (.seq (K [(J 6 0),(q 7 (.nilck 6)),(q 8 (.faddr 0 7)),(q 9 (.load none 8)),(q 10 (.len 9)),(J 5 10)] [0, 3, 5])
 (.seq (K [(J 11 5),(q 12 (.bin .add 11 (ci 1))),(q 13 (.faddr 2 3)),⟨none, .store false 1 13 12, none, []⟩] [0, 3, 5])
 (.seq (B [(J 14 0),(J 15 0),(q 16 (.nilck 15)),(q 17 (.faddr 0 16)),(q 18 (.load none 17)),(q 19 (.load (some 4) 3)),(q 20 (.buildRow true 4 1 [(.int .i64 0), (.sl 0 [] true), (.int .i64 0), (.int .i64 0)] [(0, 19)])),(q 21 (.append 4 48 18 20)),(q 22 (.nilck 14)),(q 23 (.faddr 0 22)),⟨none, .store false 1 23 21, none, []⟩] [5])
 (.seq (K [(J 24 5),(J 4 24)] [4])
 .ret)))))
def f32 : VFn := ⟨2, 25, f32_c, [.t 4], true, []⟩
def f33_c : VCode :=
 (.seq (K [(q 2 (.nilrow 2))] [0])
 (.seq (.seq (K [(J 3 0),(q 4 (.isnil .slice false 3))] [0, 4])
 (.cond 4 (.seq (K [(q 2 (.nilrow 2))] [2])
 .ret) .skip))
 (.seq (K [(q 5 (.buildRow true 2 0 [(.int .i64 0), (.int .i64 0)] [])),(J 6 0),(q 7 (.append 2 16 5 6)),(J 2 7)] [2])
 .ret)))
def f33 : VFn := ⟨1, 8, f33_c, [.t 2], true, []⟩
def f34_c : VCode :=
 (.seq (.seq (K [(q 1 (.box false 1 0)),(q 2 (.mov (.c .nilf)))] [1])
 (.frz 1))
 (.seq (.seq (K [(q 4 (.load none 1)),(q 5 (.build [(.int .i64 0), (.sl 0 [] true), (.int .i64 0), (.int .i64 0)] [(0, 1, (ci 2))])),(q 6 (.call (cf 32) [4, 5])),(q 3 (.alloc false [(.int .i64 0)])),⟨none, .store false 1 3 6, none, []⟩] [1, 3])
 (.frz 3))
 (.seq (K [(q 7 (.mkfunc (.func 57) [] [1, 3])),(J 2 7)] [2])
 .ret)))
def f34 : VFn := ⟨1, 8, f34_c, [.t 2], false, []⟩
def f35_c : VCode :=
 (.seq (.seq (K [(q 1 (.box false 1 0)),(q 2 (.mov (.c .nilf)))] [1])
 (.frz 1))
 (.seq (.seq (K [(q 4 (.load none 1)),(q 5 (.build [(.int .i64 0), (.sl 0 [] true), (.int .i64 0), (.int .i64 0)] [(0, 1, (ci 2))])),(q 6 (.call (cf 32) [4, 5])),(q 3 (.alloc false [(.int .i64 0)])),⟨none, .store false 1 3 6, none, []⟩] [1, 3])
 (.frz 3))
 (.seq (K [(q 7 (.mkfunc (.func 58) [] [1, 3])),(J 2 7)] [2])
 .ret)))
def f35 : VFn := ⟨1, 8, f35_c, [.t 2], false, []⟩
def f36_l0 : VCode :=
 (.seq (K [(q 20 (.bin .lss 19 18))] [0, 3, 18, 19, 20])
 (.seq (.cond 20 .skip (.exit 0))
 (.seq (.block 1 (.reg false [(J 21 0),(q 22 (.faddr 5 3)),(q 23 (.load none 22)),(q 24 (.iaddr 6 23 (ci 0))),(q 25 (.load (some 6) 24)),(q 26 (.call (cf 18) [21, 25]))] [0, 3, 18, 19]))
 (.reg false [(q 27 (.bin .add 19 (ci 1))),(J 19 27)] [0, 3, 18, 19]))))
def f36_l1 : VCode :=
 (.seq (K [(q 56 (.bin .lss 55 54))] [0, 3, 7, 54, 55, 56])
 (.seq (.cond 56 .skip (.exit 2))
 (.seq (.block 3 (.seq (K [(J 57 7),(J 58 0),(q 59 (.call (cf 34) [58])),(q 60 (.buildRow false 1 1 [.nilf] [(0, 59)])),(q 61 (.append 1 8 57 60)),(J 7 61)] [0, 3, 7, 54, 55])
 (.reg false [(J 62 0),(q 63 (.faddr 5 3)),(q 64 (.load none 63)),(q 65 (.iaddr 6 64 (ci 0))),(q 66 (.load (some 6) 65)),(q 67 (.call (cf 18) [62, 66]))] [0, 3, 7, 54, 55])))
 (.reg false [(q 68 (.bin .add 55 (ci 1))),(J 55 68)] [0, 3, 7, 54, 55]))))
def f36_l2 : VCode :=
 (.seq (K [(q 72 (.bin .lss 71 70))] [69, 70, 71, 72])
 (.seq (.cond 72 .skip (.exit 4))
 (.seq (.block 5 (.seq (K [(q 73 (.iaddr 1 69 71)),(q 74 (.load none 73)),(J 9 74)] [9, 69, 70, 71])
 (.reg false [(J 75 9),(q 76 (.call 75 []))] [69, 70, 71])))
 (.reg false [(q 77 (.bin .add 71 (ci 1))),(J 71 77)] [69, 70, 71]))))
def f36_c : VCode :=
 (.seq (K [(q 3 (.box true 6 1))] [0, 3])
 (.seq (K [(q 10 (.faddr 2 3)),(q 11 (.load none 10)),(J 4 11)] [0, 3, 4])
 (.seq (.seq (K [(q 12 (.faddr 5 3)),(q 13 (.load none 12)),(q 14 (.iaddr 6 13 (ci 0))),(q 15 (.load (some 6) 14)),(q 16 (.call (cf 27) [15, (ci 1)])),(q 17 (.bin .eql 16 (ci 0)))] [0, 3, 4, 17])
 (.cond 17 (.reg false [(q 4 (.mov (ci 0)))] [0, 3, 4]) .skip))
 (.seq (.seq (K [(J 18 4),(q 19 (.mov (ci 0)))] [0, 3, 18, 19])
 (.block 0 (.loop [0, 3, 18, 19] f36_l0)))
 (.seq (.seq (K [(q 28 (.faddr 3 3)),(q 29 (.load none 28)),(q 30 (.bin .lss 29 (ci 0)))] [0, 3, 30])
 (.cond 30 (.seq (K [(J 31 0),(q 32 (.nilck 31)),(q 33 (.faddr 0 32)),(q 34 (.load none 33)),(q 35 (.len 34)),(J 5 35)] [0, 3, 5])
 (.seq (K [(J 36 0),(q 37 (.call (cf 34) [36])),(J 6 37)] [0, 3, 5, 6])
 (.seq (K [(J 38 0),(q 39 (.faddr 5 3)),(q 40 (.load none 39)),(q 41 (.iaddr 6 40 (ci 0))),(q 42 (.load (some 6) 41)),(q 43 (.call (cf 18) [38, 42]))] [0, 5, 6])
 (.seq (K [(J 44 0),(q 45 (.call (cf 35) [44])),(J 46 5),(q 47 (.call 45 [46]))] [6])
 (.seq (K [(J 48 6),(q 49 (.call 48 []))] [])
 .ret))))) .skip))
 (.seq (K [(q 7 (.nilrow 1))] [0, 3, 7])
 (.seq (.seq (K [(q 50 (.faddr 3 3)),(q 51 (.load none 50)),(q 52 (.faddr 2 3)),(q 53 (.load none 52)),(q 54 (.bin .sub 51 53)),(q 55 (.mov (ci 0)))] [0, 3, 7, 54, 55])
 (.block 2 (.loop [0, 3, 7, 54, 55] f36_l1)))
 (.seq (K [(J 69 7),(q 70 (.len 69)),(q 71 (.mov (ci 0)))] [69, 70, 71])
 (.block 4 (.loop [69, 70, 71] f36_l2))))))))))
def f36 : VFn := ⟨2, 78, f36_c, [], true, []⟩
def f37_c : VCode :=
 (.seq (K [(q 2 (.mov (ci 0)))] [0])
 (.seq (.block 0 (.seq (K [(J 4 0),(q 5 (.bin .lss 4 (.c (.int .u8 128)))),(J 3 5)] [0, 3])
 (.cond 3 (.seq (K [(q 2 (.mov (ci 1)))] [2])
 .ret) (.seq (K [(J 7 0),(q 8 (.bin .geq 7 (.c (.int .u8 194)))),(J 9 8),(Z 10 0 9),(Y 11 (.bin .leq 10 (.c (.int .u8 223))) 9),(q 12 (.pick 9 11 (.c (.bool false)))),(J 6 12)] [0, 6])
 (.cond 6 (.seq (K [(q 2 (.mov (ci 2)))] [2])
 .ret) (.seq (K [(J 14 0),(q 15 (.bin .geq 14 (.c (.int .u8 224)))),(J 16 15),(Z 17 0 16),(Y 18 (.bin .leq 17 (.c (.int .u8 239))) 16),(q 19 (.pick 16 18 (.c (.bool false)))),(J 13 19)] [0, 13])
 (.cond 13 (.seq (K [(q 2 (.mov (ci 3)))] [2])
 .ret) (.seq (K [(J 21 0),(q 22 (.bin .geq 21 (.c (.int .u8 240)))),(J 23 22),(Z 24 0 23),(Y 25 (.bin .leq 24 (.c (.int .u8 244))) 23),(q 26 (.pick 23 25 (.c (.bool false)))),(J 20 26)] [20])
 (.cond 20 (.seq (K [(q 2 (.mov (ci 4)))] [2])
 .ret) .skip)))))))))
 (.seq (K [(q 2 (.mov (ci 0)))] [2])
 .ret)))
def f37 : VFn := ⟨1, 27, f37_c, [.t 2], true, []⟩
def f38_c : VCode :=
 (.seq (K [(q 4 (.mov (.c (.bool false))))] [0, 1])
 (.seq (K [(q 5 (.mov (.c (.int .u8 128)))),(q 6 (.mov (.c (.int .u8 191))))] [0, 1, 5, 6])
 (.seq (.seq (K [(J 7 0)] [1, 5, 6, 7])
 (.block 0 (.seq (K [(q 9 (.bin .eql 7 (.c (.int .u8 224)))),(J 8 9)] [1, 5, 6, 7, 8])
 (.cond 8 (.reg false [(q 5 (.mov (.c (.int .u8 160))))] [1, 5, 6]) (.seq (K [(q 11 (.bin .eql 7 (.c (.int .u8 237)))),(J 10 11)] [1, 5, 6, 7, 10])
 (.cond 10 (.reg false [(q 6 (.mov (.c (.int .u8 159))))] [1, 5, 6]) (.seq (K [(q 13 (.bin .eql 7 (.c (.int .u8 240)))),(J 12 13)] [1, 5, 6, 7, 12])
 (.cond 12 (.reg false [(q 5 (.mov (.c (.int .u8 144))))] [1, 5, 6]) (.seq (K [(q 15 (.bin .eql 7 (.c (.int .u8 244)))),(J 14 15)] [1, 5, 6, 14])
 (.cond 14 (.reg false [(q 6 (.mov (.c (.int .u8 143))))] [1, 5, 6]) .skip))))))))))
 (.seq (K [(J 16 1),(J 17 5),(q 18 (.bin .geq 16 17)),(J 19 18),(Z 20 1 19),(Z 21 6 19),(Y 22 (.bin .leq 20 21) 19),(q 23 (.pick 19 22 (.c (.bool false)))),(J 4 23)] [4])
 .ret))))
def f38 : VFn := ⟨2, 24, f38_c, [.t 4], true, []⟩
def f39_c : VCode :=
 (.seq (K [(q 1 (.box false 1 0)),(q 2 (.mov (ci 0)))] [1])
 (.seq (.seq (K [(q 3 (.load none 1)),(q 4 (.len 3)),(q 5 (.bin .eql 4 (ci 0))),(J 6 5),⟨(some 7), .load none 1, (some (6, false)), []⟩,⟨(some 8), .mkfunc (.func 60) [] [1], (some (6, false)), []⟩,⟨(some 9), .call (cf 59) [7, 8], (some (6, false)), []⟩,(q 10 (.pick 6 (.c (.bool true)) 9))] [10])
 (.cond 10 (.seq (K [(q 2 (.mov (ci 101)))] [2])
 .ret) .skip))
 (.seq (K [(q 2 (.mov (ci 0)))] [2])
 .ret)))
def f39 : VFn := ⟨1, 11, f39_c, [.t 2], true, []⟩
def f40_l0 : VCode :=
 (.seq (K [(q 19 (.next 18)),(E 20 19 0)] [6, 18, 19, 20])
 (.seq (.cond 20 .skip (.exit 0))
 (.block 1 (.seq (K [(E 21 19 2),(J 8 21)] [6, 8, 18])
 (.reg false [(J 22 6),(J 23 8),(q 24 (.conv (.toInt .i64) 23)),(q 25 (.buildRow false 1 1 [(.int .i64 0)] [(0, 24)])),(q 26 (.append 1 8 22 25)),(J 6 26)] [6, 18])))))
def f40_c : VCode :=
 (.seq (K [(q 2 (.nilrow 1)),(q 3 (.mov (ci 0)))] [0])
 (.seq (.seq (K [(J 10 0),(q 11 (.call (cf 62) [10])),(J 9 11),(E 12 9 0),(E 13 9 1),(J 4 12),(J 5 13)] [0, 5])
 (.seq (K [(J 14 5),(q 15 (.un .not 14))] [0, 15])
 (.cond 15 (.seq (K [(q 2 (.nilrow 1)),(q 3 (.mov (ci 10)))] [2, 3])
 .ret) .skip)))
 (.seq (K [(q 6 (.nilrow 1))] [0, 6])
 (.seq (.seq (K [(J 16 0),(q 17 (.conv .bytesToStr 16)),(q 18 (.range 17))] [6, 18])
 (.block 0 (.loop [6, 18] f40_l0)))
 (.seq (K [(J 27 6),(J 2 27),(q 3 (.mov (ci 0)))] [2, 3])
 .ret)))))
def f40 : VFn := ⟨1, 28, f40_c, [.t 2, .t 3], true, []⟩
def f41_l0 : VCode :=
 (.seq (.seq (K [(J 16 11),(q 17 (.len 16)),(q 18 (.bin .gtr 17 (ci 0)))] [0, 2, 8, 9, 10, 11, 18])
 (.cond 18 .skip (.exit 0)))
 (.block 1 (.seq (K [(J 19 11),(J 20 11),(q 21 (.len 20)),(q 22 (.bin .sub 21 (ci 1))),(q 23 (.iaddr 1 19 22)),(q 24 (.load none 23)),(J 12 24)] [0, 2, 8, 9, 10, 11, 12])
 (.seq (K [(J 25 11),(J 26 11),(q 27 (.len 26)),(q 28 (.bin .sub 27 (ci 1))),(J 29 11),(q 30 (.len 29)),(q 31 (.bin .sub 30 (ci 1))),(q 32 (.sl 1 25 none (some 28) (some 31))),(J 11 32)] [0, 2, 8, 9, 10, 11, 12])
 (.seq (.seq (K [(J 33 8),(J 34 12),(q 35 (.lookup false [.int] (.int .i64 0) 33 34 false)),(q 36 (.bin .gtr 35 (ci 0)))] [0, 2, 8, 9, 10, 11, 12, 36])
 (.cond 36 (.exit 1) .skip))
 (.seq (K [(J 37 8),(J 38 12),⟨none, .mapupd false [.int] 37 38 (ci 1), none, []⟩] [0, 2, 8, 9, 10, 11, 12])
 (.seq (K [(J 39 9),(J 40 12),(q 41 (.buildRow false 1 1 [(.int .i64 0)] [(0, 40)])),(q 42 (.append 1 8 39 41)),(J 9 42)] [0, 2, 8, 9, 10, 11, 12])
 (.seq (K [(J 43 0),(q 44 (.nilck 43)),(q 45 (.faddr 0 44)),(q 46 (.load none 45)),(J 47 12),(q 48 (.iaddr 4 46 47)),(q 49 (.load (some 4) 48)),(q 13 (.alloc true [(.int .i64 0), (.sl 0 [] true), (.int .i64 0), (.int .i64 0)])),⟨none, .store true 4 13 49, none, []⟩] [0, 2, 8, 9, 10, 11, 13])
 (.seq (K [(J 50 10),(J 51 50),⟨(some 52), .faddr 0 13, (some (51, false)), []⟩,⟨(some 53), .load none 52, (some (51, false)), []⟩,⟨(some 54), .bin .eql 53 (ci 7), (some (51, false)), []⟩,(q 55 (.pick 51 (.c (.bool true)) 54)),(J 10 55)] [0, 2, 8, 9, 10, 11, 13])
 (.seq (.seq (K [(J 56 0),(q 57 (.faddr 0 13)),(q 58 (.load none 57)),(J 59 2),(q 60 (.call (cf 63) [56, 58, 59]))] [0, 2, 8, 9, 10, 11, 13, 60])
 (.cond 60 (.reg false [(J 61 11),(q 62 (.faddr 2 13)),(q 63 (.load none 62)),(q 64 (.buildRow false 1 1 [(.int .i64 0)] [(0, 63)])),(q 65 (.append 1 8 61 64)),(J 11 65)] [0, 2, 8, 9, 10, 11, 13]) .skip))
 (.seq (K [(q 66 (.faddr 0 13)),(q 67 (.load none 66)),(q 68 (.bin .eql 67 (ci 2)))] [0, 2, 8, 9, 10, 11, 13, 68])
 (.cond 68 (.reg false [(J 69 11),(q 70 (.faddr 3 13)),(q 71 (.load none 70)),(q 72 (.buildRow false 1 1 [(.int .i64 0)] [(0, 71)])),(q 73 (.append 1 8 69 72)),(J 11 73)] [0, 2, 8, 9, 10, 11]) .skip))))))))))))
def f41_c : VCode :=
 (.seq (K [(q 6 (.nilrow 1)),(q 7 (.mov (.c (.bool false))))] [0, 1, 2])
 (.seq (K [(q 14 (.mkmap)),(J 8 14)] [0, 1, 2, 8])
 (.seq (K [(q 9 (.nilrow 1))] [0, 1, 2, 8, 9])
 (.seq (K [(q 10 (.mov (.c (.bool false))))] [0, 1, 2, 8, 9, 10])
 (.seq (K [(J 15 1),(J 11 15)] [0, 2, 8, 9, 10, 11])
 (.seq (.block 0 (.loop [0, 2, 8, 9, 10, 11] f41_l0))
 (.seq (K [(J 74 9),(J 75 10),(J 6 74),(J 7 75)] [6, 7])
 .ret)))))))
def f41 : VFn := ⟨3, 76, f41_c, [.t 6, .t 7], true, []⟩
def f42_l0 : VCode :=
 (.seq (K [(q 28 (.bin .lss 27 26))] [0, 2, 7, 9, 12, 13, 14, 25, 26, 27, 28])
 (.seq (.cond 28 .skip (.exit 2))
 (.seq (.block 3 (.seq (K [(q 29 (.iaddr 2 25 27)),(q 30 (.load (some 2) 29)),(q 11 (.alloc true [(.int .i64 0), (.int .i64 0)])),⟨none, .store true 2 11 30, none, []⟩] [0, 2, 7, 9, 11, 12, 13, 14, 25, 26, 27])
 (.seq (K [(J 31 2),(q 32 (.faddr 0 11)),(q 33 (.load none 32)),(q 34 (.bin .geq 31 33)),(J 35 34),(Z 36 2 35),(Y 37 (.faddr 1 11) 35),(Y 38 (.load none 37) 35),(Y 39 (.bin .leq 36 38) 35),(q 40 (.pick 35 39 (.c (.bool false))))] [0, 2, 7, 9, 12, 13, 14, 25, 26, 27, 40])
 (.cond 40 (.seq (K [(J 41 7),(J 42 0),(q 43 (.nilck 42)),(q 44 (.faddr 0 43)),(q 45 (.load none 44)),(J 46 9),(q 47 (.iaddr 4 45 46)),(q 48 (.faddr 2 47)),(q 49 (.load none 48)),(q 50 (.buildRow false 1 1 [(.int .i64 0)] [(0, 49)])),(q 51 (.append 1 8 41 50)),(J 7 51)] [0, 2, 7, 12, 13, 14])
 (.exit 2)) .skip))))
 (.reg false [(q 52 (.bin .add 27 (ci 1))),(J 27 52)] [0, 2, 7, 9, 12, 13, 14, 25, 26, 27]))))
def f42_l1 : VCode :=
 (.seq (K [(q 15 (.bin .lss 14 13))] [0, 2, 7, 12, 13, 14, 15])
 (.seq (.cond 15 .skip (.exit 0))
 (.seq (.block 1 (.seq (K [(q 16 (.iaddr 1 12 14)),(q 17 (.load none 16)),(J 9 17)] [0, 2, 7, 9, 12, 13, 14])
 (.seq (K [(J 18 0),(q 19 (.nilck 18)),(q 20 (.faddr 0 19)),(q 21 (.load none 20)),(J 22 9),(q 23 (.iaddr 4 21 22)),(q 24 (.faddr 1 23)),(q 25 (.load none 24)),(q 26 (.len 25)),(q 27 (.mov (ci 0)))] [0, 2, 7, 9, 12, 13, 14, 25, 26, 27])
 (.block 2 (.loop [0, 2, 7, 9, 12, 13, 14, 25, 26, 27] f42_l0)))))
 (.reg false [(q 53 (.bin .add 14 (ci 1))),(J 14 53)] [0, 2, 7, 12, 13, 14]))))
def f42_c : VCode :=
 (.seq (K [(q 6 (.nilrow 1))] [0, 1, 2])
 (.seq (K [(q 7 (.nilrow 1))] [0, 1, 2, 7])
 (.seq (.seq (K [(J 12 1),(q 13 (.len 12)),(q 14 (.mov (ci 0)))] [0, 2, 7, 12, 13, 14])
 (.block 0 (.loop [0, 2, 7, 12, 13, 14] f42_l1)))
 (.seq (K [(J 54 7),(J 6 54)] [6])
 .ret))))
def f42 : VFn := ⟨3, 55, f42_c, [.t 6], false, []⟩
def f43_c : VCode :=
 (.seq .stuck
 (.block 0 (.seq (K [(q 7 (.isnil .iface false 5))] [0, 1, 5, 7])
 (.cond 7 (.reg false [(J 2 5)] []) (.seq (K [(q 8 (.assert 92 (.agg []) 5 true)),(E 9 8 1),(E 10 8 0)] [0, 1, 5, 9, 10])
 (.cond 9 (.seq (K [(q 3 (.alloc true [])),⟨none, .store true 0 3 10, none, []⟩] [0, 1])
 (.reg false [(q 11 (.build [(.int .i64 0), (.sl 0 [] true), (.int .i64 0), (.int .i64 0), (.bool false), (.sl 0 [] true)] [])),⟨none, .store true 6 0 11, none, []⟩,⟨none, .store false 1 1 (ci 90), none, []⟩] [])) (.seq (K [(J 4 5)] [4])
 (.reg false [(J 6 4),⟨none, .panic 6, none, []⟩] []))))))))
def f43 : VFn := ⟨2, 12, f43_c, [], true, []⟩
def f44_l0 : VCode :=
 (.seq (.seq (K [(J 7 0),(q 8 (.call (cf 65) [7, (.c (.str ⟨#[124]⟩))]))] [0, 2, 3, 8])
 (.cond 8 .skip (.exit 0)))
 (.block 1 (.reg false [(J 9 3),(J 10 0),(q 11 (.call (cf 64) [10])),(q 12 (.buildRow true 6 1 [(.int .i64 0), (.sl 0 [] true), (.int .i64 0), (.int .i64 0), (.bool false), (.sl 0 [] true)] [(0, 11)])),(q 13 (.append 6 80 9 12)),(J 3 13)] [0, 2, 3])))
def f44_c : VCode :=
 (.seq (K [(q 2 (.alloc true [(.int .i64 0), (.sl 0 [] true), (.int .i64 0), (.int .i64 0), (.bool false), (.sl 0 [] true)]))] [0, 2])
 (.seq (K [(J 4 0),(q 5 (.call (cf 64) [4])),(q 6 (.buildRow true 6 1 [(.int .i64 0), (.sl 0 [] true), (.int .i64 0), (.int .i64 0), (.bool false), (.sl 0 [] true)] [(0, 5)])),(J 3 6)] [0, 2, 3])
 (.seq (.block 0 (.loop [0, 2, 3] f44_l0))
 (.seq (K [(J 14 3),(q 15 (.call (cf 66) [(ci 4), 14])),⟨none, .store true 6 2 15, none, []⟩] [2])
 .ret))))
def f44 : VFn := ⟨1, 16, f44_c, [.c 2 (some 6)], true, []⟩
def f45_c : VCode :=
 (.seq (K [(J 2 0),(q 3 (.un .not 2))] [3])
 (.cond 3 (.reg false [(q 4 (.build [] [])),(q 5 (.mkiface 92 4)),⟨none, .panic 5, none, []⟩] []) .skip))
def f45 : VFn := ⟨1, 6, f45_c, [], true, []⟩
def f46_c : VCode :=
 (.seq (K [(q 2 (.box true 6 0)),(q 3 (.box false 1 1)),(q 4 (.mov (.c (.bool false))))] [2, 3])
 (.seq (.seq (K [(q 7 (.load none 3)),(q 8 (.bin .eql 7 (ci 0)))] [2, 3, 8])
 (.cond 8 (.seq (K [(q 4 (.mov (.c (.bool false))))] [4])
 .ret) .skip))
 (.seq (K [(q 9 (.load (some 6) 2)),(q 5 (.alloc true [(.int .i64 0), (.sl 0 [] true), (.int .i64 0), (.int .i64 0), (.bool false), (.sl 0 [] true)])),⟨none, .store true 6 5 9, none, []⟩] [2, 3, 5])
 (.seq (K [(q 10 (.faddr 0 5)),⟨none, .store false 1 10 (ci 0), none, []⟩,(q 11 (.faddr 5 5)),⟨none, .store false 1 11 (.c (.sl 0 [] true)), none, []⟩] [2, 3, 5])
 (.seq (K [(q 12 (.faddr 5 2)),(q 13 (.load none 12)),(q 14 (.len 13)),(J 6 14)] [2, 3, 5, 6])
 (.seq (.seq (K [(q 15 (.faddr 0 2)),(q 16 (.load none 15))] [2, 3, 5, 6, 16])
 (.block 0 (.seq (.seq (K [(q 18 (.bin .eql 16 (ci 1))),(J 17 18)] [2, 3, 5, 6, 16, 17])
 (.cond 17 .skip (.seq (K [(q 19 (.bin .eql 16 (ci 6))),(J 17 19)] [2, 3, 5, 6, 16, 17])
 (.cond 17 .skip (.seq (K [(q 20 (.bin .eql 16 (ci 7))),(J 17 20)] [2, 3, 5, 6, 16, 17])
 (.cond 17 .skip (.seq (K [(q 21 (.bin .eql 16 (ci 8))),(J 17 21)] [2, 3, 5, 6, 16, 17])
 (.cond 17 .skip (.reg false [(q 22 (.bin .eql 16 (ci 9))),(J 17 22)] [2, 3, 5, 6, 16, 17])))))))))
 (.cond 17 (.seq (K [(J 23 6),(q 24 (.bin .gtr 23 (ci 0)))] [2, 3, 5, 24])
 (.cond 24 (.seq (K [(q 4 (.mov (.c (.bool false))))] [4])
 .ret) .skip)) (.seq (K [(q 26 (.bin .eql 16 (ci 2))),(J 25 26)] [2, 3, 5, 6, 16, 25])
 (.cond 25 (.seq (.seq (K [(J 27 6),(q 28 (.bin .gtr 27 (ci 0))),(J 29 28),⟨(some 30), .faddr 1 2, (some (29, false)), []⟩,⟨(some 31), .load none 30, (some (29, false)), []⟩,⟨(some 32), .call (cf 67) [31], (some (29, false)), []⟩,⟨(some 33), .un .not 32, (some (29, false)), []⟩,(q 34 (.pick 29 (.c (.bool true)) 33))] [2, 3, 5, 34])
 (.cond 34 (.seq (K [(q 4 (.mov (.c (.bool false))))] [4])
 .ret) .skip))
 (.reg false [(q 35 (.faddr 1 5)),⟨none, .store false 1 35 (.c (.sl 0 [] true)), none, []⟩] [2, 3, 5])) (.seq (.seq (K [(q 37 (.bin .eql 16 (ci 3))),(J 36 37)] [2, 3, 5, 6, 16, 36])
 (.cond 36 .skip (.reg false [(q 38 (.bin .eql 16 (ci 4))),(J 36 38)] [2, 3, 5, 6, 16, 36])))
 (.cond 36 (.seq (K [(J 39 6),(q 40 (.bin .lss 39 (ci 2)))] [2, 3, 5, 40])
 (.cond 40 (.seq (K [(q 4 (.mov (.c (.bool false))))] [4])
 .ret) .skip)) (.seq (K [(q 42 (.bin .eql 16 (ci 5))),(J 41 42)] [2, 3, 5, 6, 41])
 (.cond 41 (.seq (.seq (K [(J 43 6),(q 44 (.bin .neq 43 (ci 1))),(J 45 44),⟨(some 46), .faddr 2 2, (some (45, false)), []⟩,⟨(some 47), .load none 46, (some (45, false)), []⟩,⟨(some 48), .bin .lss 47 (ci 0), (some (45, false)), []⟩,(q 49 (.pick 45 (.c (.bool true)) 48)),(J 50 49),⟨(some 51), .faddr 2 2, (some (50, false)), []⟩,⟨(some 52), .load none 51, (some (50, false)), []⟩,⟨(some 53), .bin .gtr 52 (ci 1000), (some (50, false)), []⟩,(q 54 (.pick 50 (.c (.bool true)) 53)),(J 55 54),⟨(some 56), .faddr 3 2, (some (55, false)), []⟩,⟨(some 57), .load none 56, (some (55, false)), []⟩,⟨(some 58), .bin .lss 57 (ci (-1)), (some (55, false)), []⟩,(q 59 (.pick 55 (.c (.bool true)) 58)),(J 60 59),⟨(some 61), .faddr 3 2, (some (60, false)), []⟩,⟨(some 62), .load none 61, (some (60, false)), []⟩,⟨(some 63), .bin .gtr 62 (ci 1000), (some (60, false)), []⟩,(q 64 (.pick 60 (.c (.bool true)) 63)),(J 65 64),⟨(some 66), .faddr 3 2, (some (65, false)), []⟩,⟨(some 67), .load none 66, (some (65, false)), []⟩,⟨(some 68), .bin .geq 67 (ci 0), (some (65, false)), []⟩,⟨(some 69), .mov 68, (some (65, false)), []⟩,(Y 70 (.faddr 3 2) 69),(Y 71 (.load none 70) 69),(Y 72 (.faddr 2 2) 69),(Y 73 (.load none 72) 69),(Y 74 (.bin .lss 71 73) 69),⟨(some 75), .pick 69 74 (.c (.bool false)), (some (65, false)), []⟩,(q 76 (.pick 65 (.c (.bool true)) 75))] [2, 3, 5, 76])
 (.cond 76 (.seq (K [(q 4 (.mov (.c (.bool false))))] [4])
 .ret) .skip))
 (.reg false [(q 77 (.faddr 2 5)),⟨none, .store false 1 77 (ci 0), none, []⟩,(q 78 (.faddr 3 5)),⟨none, .store false 1 78 (ci 0), none, []⟩,(q 79 (.faddr 4 5)),⟨none, .store false 1 79 (.c (.bool false)), none, []⟩] [2, 3, 5])) (.seq (K [(q 4 (.mov (.c (.bool false))))] [4])
 .ret)))))))))))
 (.seq (.seq (K [(q 80 (.faddr 1 5)),(q 81 (.load none 80)),(q 82 (.len 81)),(q 83 (.bin .gtr 82 (ci 0))),(J 84 83),⟨(some 85), .faddr 2 5, (some (84, false)), []⟩,⟨(some 86), .load none 85, (some (84, false)), []⟩,⟨(some 87), .bin .neq 86 (ci 0), (some (84, false)), []⟩,(q 88 (.pick 84 (.c (.bool true)) 87)),(J 89 88),⟨(some 90), .faddr 3 5, (some (89, false)), []⟩,⟨(some 91), .load none 90, (some (89, false)), []⟩,⟨(some 92), .bin .neq 91 (ci 0), (some (89, false)), []⟩,(q 93 (.pick 89 (.c (.bool true)) 92)),(J 94 93),⟨(some 95), .faddr 4 5, (some (94, false)), []⟩,⟨(some 96), .load none 95, (some (94, false)), []⟩,(q 97 (.pick 94 (.c (.bool true)) 96))] [2, 3, 97])
 (.cond 97 (.seq (K [(q 4 (.mov (.c (.bool false))))] [4])
 .ret) .skip))
 (.seq (K [(q 98 (.faddr 5 2)),(q 99 (.load none 98)),(q 100 (.mkfunc (.func 69) [] [3])),(q 101 (.call (cf 68) [99, 100])),(q 102 (.un .not 101)),(J 4 102)] [4])
 .ret))))))))
def f46 : VFn := ⟨2, 103, f46_c, [.t 4], true, []⟩
def f47_l0 : VCode :=
 (.seq (.seq (B [(J 18 9),(J 19 1),(q 20 (.bin .gtr 18 19)),(J 21 20),(Z 22 3 21),(Z 23 0 21),(Z 24 9 21),(Y 25 (.iaddr 2 23 24) 21),(Y 26 (.load (some 2) 25) 21),(Z 27 0 21),(Z 28 9 21),(Y 29 (.bin .sub 28 (ci 1)) 21),(Y 30 (.iaddr 2 27 29) 21),(Y 31 (.load (some 2) 30) 21),(Y 32 (.call 22 [26, 31]) 21),(Y 33 (.bin .lss 32 (ci 0)) 21),(q 34 (.pick 21 33 (.c (.bool false))))] [0, 1, 2, 3, 8, 9, 34])
 (.cond 34 .skip (.exit 2)))
 (.seq (.block 3 (.reg true [(J 37 0),(J 38 9),(J 39 0),(J 40 9),(q 41 (.bin .sub 40 (ci 1))),(J 42 0),(J 43 9),(q 44 (.bin .sub 43 (ci 1))),(q 45 (.iaddr 2 42 44)),(q 46 (.load (some 2) 45)),(J 47 0),(J 48 9),(q 49 (.iaddr 2 47 48)),(q 50 (.load (some 2) 49)),(q 51 (.iaddr 2 37 38)),⟨none, .store true 2 51 46, none, []⟩,(q 52 (.iaddr 2 39 41)),⟨none, .store true 2 52 50, none, []⟩] [0, 1, 2, 3, 8, 9]))
 (.reg false [(J 35 9),(q 36 (.bin .sub 35 (ci 1))),(J 9 36)] [0, 1, 2, 3, 8, 9])))
def f47_l1 : VCode :=
 (.seq (.seq (K [(J 12 8),(J 13 2),(q 14 (.bin .lss 12 13))] [0, 1, 2, 3, 8, 14])
 (.cond 14 .skip (.exit 0)))
 (.seq (.block 1 (.seq (K [(J 17 8),(J 9 17)] [0, 1, 2, 3, 8, 9])
 (.block 2 (.loop [0, 1, 2, 3, 8, 9] f47_l0))))
 (.reg false [(J 15 8),(q 16 (.bin .add 15 (ci 1))),(J 8 16)] [0, 1, 2, 3, 8])))
def f47_c : VCode :=
 (.seq (K [(J 10 1),(q 11 (.bin .add 10 (ci 1))),(J 8 11)] [0, 1, 2, 3, 8])
 (.block 0 (.loop [0, 1, 2, 3, 8] f47_l1)))
def f47 : VFn := ⟨4, 53, f47_c, [], false, [0]⟩
def f48_l0 : VCode :=
 (.seq (.seq (K [(J 20 11),(q 21 (.bin .geq 20 (ci 0)))] [0, 3, 8, 9, 10, 11, 21])
 (.cond 21 .skip (.exit 0)))
 (.seq (.block 1 (.reg false [(J 24 0),(J 25 11),(J 26 10),(J 27 8),(J 28 3),(q 29 (.call (cf 70) [24, 25, 26, 27, 28]))] [0, 3, 8, 9, 10, 11]))
 (.reg false [(J 22 11),(q 23 (.bin .sub 22 (ci 1))),(J 11 23)] [0, 3, 8, 9, 10, 11])))
def f48_l1 : VCode :=
 (.seq (.seq (K [(J 32 12),(q 33 (.bin .geq 32 (ci 0)))] [0, 3, 8, 9, 12, 33])
 (.cond 33 .skip (.exit 2)))
 (.seq (.block 3 (.seq (B [(J 36 0),(J 37 8),(J 38 0),(J 39 8),(J 40 12),(q 41 (.bin .add 39 40)),(J 42 0),(J 43 8),(J 44 12),(q 45 (.bin .add 43 44)),(q 46 (.iaddr 2 42 45)),(q 47 (.load (some 2) 46)),(J 48 0),(J 49 8),(q 50 (.iaddr 2 48 49)),(q 51 (.load (some 2) 50)),(q 52 (.iaddr 2 36 37)),⟨none, .store true 2 52 47, none, []⟩,(q 53 (.iaddr 2 38 41)),⟨none, .store true 2 53 51, none, []⟩] [0, 3, 8, 9, 12])
 (.reg false [(J 54 0),(J 55 9),(J 56 12),(J 57 8),(J 58 3),(q 59 (.call (cf 70) [54, 55, 56, 57, 58]))] [0, 3, 8, 9, 12])))
 (.reg false [(J 34 12),(q 35 (.bin .sub 34 (ci 1))),(J 12 35)] [0, 3, 8, 9, 12])))
def f48_c : VCode :=
 (.seq (K [(J 13 1),(J 8 13)] [0, 1, 2, 3, 8])
 (.seq (K [(q 9 (.mov (ci 0)))] [0, 1, 2, 3, 8, 9])
 (.seq (K [(J 14 2),(J 15 1),(q 16 (.bin .sub 14 15)),(J 10 16)] [0, 3, 8, 9, 10])
 (.seq (.seq (K [(J 17 10),(q 18 (.bin .sub 17 (ci 1))),(q 19 (.bin .quo 18 (ci 2))),(J 11 19)] [0, 3, 8, 9, 10, 11])
 (.block 0 (.loop [0, 3, 8, 9, 10, 11] f48_l0)))
 (.seq (K [(J 30 10),(q 31 (.bin .sub 30 (ci 1))),(J 12 31)] [0, 3, 8, 9, 12])
 (.block 2 (.loop [0, 3, 8, 9, 12] f48_l1)))))))
def f48 : VFn := ⟨4, 60, f48_c, [], false, [0]⟩
def f49_l0 : VCode :=
 (.seq (.seq (K [(J 28 11),(J 29 1),(J 30 8),(q 31 (.bin .quo 30 (ci 4))),(q 32 (.bin .mul 31 (ci 2))),(q 33 (.bin .add 29 32)),(q 34 (.bin .add 33 (ci 1))),(q 35 (.bin .leq 28 34))] [0, 1, 8, 9, 10, 11, 35])
 (.cond 35 .skip (.exit 0)))
 (.seq (.block 1 (.seq (K [(q 38 (.call (cf 72) [9])),(J 39 10),(q 40 (.bin .sub 39 (.c (.int .u64 1)))),(q 41 (.bin .and 38 40)),(q 42 (.conv (.toInt .i64) 41)),(J 12 42)] [0, 1, 8, 9, 10, 11, 12])
 (.seq (.seq (K [(J 43 12),(J 44 8),(q 45 (.bin .geq 43 44))] [0, 1, 8, 9, 10, 11, 12, 45])
 (.cond 45 (.reg false [(J 46 12),(J 47 8),(q 48 (.bin .sub 46 47)),(J 12 48)] [0, 1, 8, 9, 10, 11, 12]) .skip))
 (.reg true [(J 49 0),(J 50 11),(J 51 0),(J 52 1),(J 53 12),(q 54 (.bin .add 52 53)),(J 55 0),(J 56 1),(J 57 12),(q 58 (.bin .add 56 57)),(q 59 (.iaddr 2 55 58)),(q 60 (.load (some 2) 59)),(J 61 0),(J 62 11),(q 63 (.iaddr 2 61 62)),(q 64 (.load (some 2) 63)),(q 65 (.iaddr 2 49 50)),⟨none, .store true 2 65 60, none, []⟩,(q 66 (.iaddr 2 51 54)),⟨none, .store true 2 66 64, none, []⟩] [0, 1, 8, 9, 10, 11]))))
 (.reg false [(J 36 11),(q 37 (.bin .add 36 (ci 1))),(J 11 37)] [0, 1, 8, 9, 10, 11])))
def f49_c : VCode :=
 (.seq (K [(J 13 2),(J 14 1),(q 15 (.bin .sub 13 14)),(J 8 15)] [0, 1, 8])
 (.seq (K [(J 16 8),(q 17 (.bin .geq 16 (ci 8)))] [0, 1, 8, 17])
 (.cond 17 (.seq (K [(J 18 8),(q 19 (.conv (.toInt .u64) 18)),(q 9 (.alloc false [(.int .u64 0)])),⟨none, .store false 1 9 19, none, []⟩] [0, 1, 8, 9])
 (.seq (K [(J 20 8),(q 21 (.call (cf 71) [20])),(J 10 21)] [0, 1, 8, 9, 10])
 (.seq (K [(J 22 1),(J 23 8),(q 24 (.bin .quo 23 (ci 4))),(q 25 (.bin .mul 24 (ci 2))),(q 26 (.bin .add 22 25)),(q 27 (.bin .sub 26 (ci 1))),(J 11 27)] [0, 1, 8, 9, 10, 11])
 (.block 0 (.loop [0, 1, 8, 9, 10, 11] f49_l0))))) .skip)))
def f49 : VFn := ⟨4, 67, f49_c, [], false, [0]⟩
def f50_c : VCode :=
 (.seq (K [(q 8 (.mov (ci 0))),(q 9 (.mov (ci 0)))] [0, 1, 2, 3])
 (.seq (K [(J 15 2),(J 16 1),(q 17 (.bin .sub 15 16)),(J 10 17)] [0, 1, 3, 10])
 (.seq (K [(q 11 (.alloc false [(.int .i64 0)]))] [0, 1, 3, 10, 11])
 (.seq (K [(J 18 1),(J 19 10),(q 20 (.bin .quo 19 (ci 4))),(q 21 (.bin .mul 20 (ci 1))),(q 22 (.bin .add 18 21)),(J 12 22)] [0, 1, 3, 10, 11, 12])
 (.seq (K [(J 23 1),(J 24 10),(q 25 (.bin .quo 24 (ci 4))),(q 26 (.bin .mul 25 (ci 2))),(q 27 (.bin .add 23 26)),(J 13 27)] [0, 1, 3, 10, 11, 12, 13])
 (.seq (K [(J 28 1),(J 29 10),(q 30 (.bin .quo 29 (ci 4))),(q 31 (.bin .mul 30 (ci 3))),(q 32 (.bin .add 28 31)),(J 14 32)] [0, 3, 10, 11, 12, 13, 14])
 (.seq (.seq (K [(J 33 10),(q 34 (.bin .geq 33 (ci 8)))] [0, 3, 10, 11, 12, 13, 14, 34])
 (.cond 34 (.seq (.seq (K [(J 35 10),(q 36 (.bin .geq 35 (ci 50)))] [0, 3, 11, 12, 13, 14, 36])
 (.cond 36 (.seq (K [(J 37 0),(J 38 12),(J 39 3),(q 40 (.call (cf 73) [37, 38, 11, 39])),(J 12 40)] [0, 3, 11, 12, 13, 14])
 (.seq (K [(J 41 0),(J 42 13),(J 43 3),(q 44 (.call (cf 73) [41, 42, 11, 43])),(J 13 44)] [0, 3, 11, 12, 13, 14])
 (.reg false [(J 45 0),(J 46 14),(J 47 3),(q 48 (.call (cf 73) [45, 46, 11, 47])),(J 14 48)] [0, 3, 11, 12, 13, 14]))) .skip))
 (.reg false [(J 49 0),(J 50 12),(J 51 13),(J 52 14),(J 53 3),(q 54 (.call (cf 74) [49, 50, 51, 52, 11, 53])),(J 13 54)] [11, 13])) .skip))
 (.seq (K [(q 55 (.load none 11))] [13, 55])
 (.block 0 (.seq (K [(q 58 (.bin .eql 55 (ci 0))),(J 57 58)] [13, 55, 57])
 (.cond 57 (.seq (K [(J 59 13),(J 8 59),(q 9 (.mov (ci 1)))] [8, 9])
 .ret) (.seq (K [(q 61 (.bin .eql 55 (ci 12))),(J 60 61)] [13, 60])
 (.cond 60 (.seq (K [(J 62 13),(J 8 62),(q 9 (.mov (ci 2)))] [8, 9])
 .ret) (.seq (K [(J 56 13),(J 8 56),(q 9 (.mov (ci 0)))] [8, 9])
 .ret))))))))))))))
def f50 : VFn := ⟨4, 63, f50_c, [.t 8, .t 9], false, [0]⟩
def f51_l0 : VCode :=
 (.seq (.seq (K [(J 13 8),(J 14 9),(q 15 (.bin .lss 13 14))] [0, 8, 9, 15])
 (.cond 15 .skip (.exit 0)))
 (.block 1 (.seq (B [(J 16 0),(J 17 8),(J 18 0),(J 19 9),(J 20 0),(J 21 9),(q 22 (.iaddr 2 20 21)),(q 23 (.load (some 2) 22)),(J 24 0),(J 25 8),(q 26 (.iaddr 2 24 25)),(q 27 (.load (some 2) 26)),(q 28 (.iaddr 2 16 17)),⟨none, .store true 2 28 23, none, []⟩,(q 29 (.iaddr 2 18 19)),⟨none, .store true 2 29 27, none, []⟩] [0, 8, 9])
 (.seq (K [(J 30 8),(q 31 (.bin .add 30 (ci 1))),(J 8 31)] [0, 8, 9])
 (.reg false [(J 32 9),(q 33 (.bin .sub 32 (ci 1))),(J 9 33)] [0, 8, 9])))))
def f51_c : VCode :=
 (.seq (K [(J 10 1),(J 8 10)] [0, 2, 8])
 (.seq (K [(J 11 2),(q 12 (.bin .sub 11 (ci 1))),(J 9 12)] [0, 8, 9])
 (.block 0 (.loop [0, 8, 9] f51_l0))))
def f51 : VFn := ⟨4, 34, f51_c, [], false, [0]⟩
def f52_l0 : VCode :=
 (.seq (.seq (B [(J 19 9),(J 20 2),(q 21 (.bin .lss 19 20)),(J 22 21),(Z 23 3 22),(Z 24 0 22),(Z 25 9 22),(Y 26 (.iaddr 2 24 25) 22),(Y 27 (.load (some 2) 26) 22),(Z 28 0 22),(Z 29 9 22),(Y 30 (.bin .sub 29 (ci 1)) 22),(Y 31 (.iaddr 2 28 30) 22),(Y 32 (.load (some 2) 31) 22),(Y 33 (.call 23 [27, 32]) 22),(Y 34 (.bin .lss 33 (ci 0)) 22),(Y 35 (.un .not 34) 22),(q 36 (.pick 22 35 (.c (.bool false))))] [0, 1, 2, 3, 9, 10, 36])
 (.cond 36 .skip (.exit 2)))
 (.block 3 (.reg false [(J 37 9),(q 38 (.bin .add 37 (ci 1))),(J 9 38)] [0, 1, 2, 3, 9, 10])))
def f52_l1 : VCode :=
 (.seq (.seq (K [(J 68 11),(q 69 (.bin .geq 68 (ci 1)))] [0, 1, 2, 3, 9, 10, 11, 69])
 (.cond 69 .skip (.exit 4)))
 (.seq (.block 5 (.seq (.seq (B [(J 72 3),(J 73 0),(J 74 11),(q 75 (.iaddr 2 73 74)),(q 76 (.load (some 2) 75)),(J 77 0),(J 78 11),(q 79 (.bin .sub 78 (ci 1))),(q 80 (.iaddr 2 77 79)),(q 81 (.load (some 2) 80)),(q 82 (.call 72 [76, 81])),(q 83 (.bin .lss 82 (ci 0))),(q 84 (.un .not 83))] [0, 1, 2, 3, 9, 10, 11, 84])
 (.cond 84 (.exit 4) .skip))
 (.reg true [(J 85 0),(J 86 11),(J 87 0),(J 88 11),(q 89 (.bin .sub 88 (ci 1))),(J 90 0),(J 91 11),(q 92 (.bin .sub 91 (ci 1))),(q 93 (.iaddr 2 90 92)),(q 94 (.load (some 2) 93)),(J 95 0),(J 96 11),(q 97 (.iaddr 2 95 96)),(q 98 (.load (some 2) 97)),(q 99 (.iaddr 2 85 86)),⟨none, .store true 2 99 94, none, []⟩,(q 100 (.iaddr 2 87 89)),⟨none, .store true 2 100 98, none, []⟩] [0, 1, 2, 3, 9, 10, 11])))
 (.reg false [(J 70 11),(q 71 (.bin .sub 70 (ci 1))),(J 11 71)] [0, 1, 2, 3, 9, 10, 11])))
def f52_l2 : VCode :=
 (.seq (.seq (K [(J 107 12),(J 108 2),(q 109 (.bin .lss 107 108))] [0, 1, 2, 3, 9, 10, 12, 109])
 (.cond 109 .skip (.exit 6)))
 (.seq (.block 7 (.seq (.seq (B [(J 112 3),(J 113 0),(J 114 12),(q 115 (.iaddr 2 113 114)),(q 116 (.load (some 2) 115)),(J 117 0),(J 118 12),(q 119 (.bin .sub 118 (ci 1))),(q 120 (.iaddr 2 117 119)),(q 121 (.load (some 2) 120)),(q 122 (.call 112 [116, 121])),(q 123 (.bin .lss 122 (ci 0))),(q 124 (.un .not 123))] [0, 1, 2, 3, 9, 10, 12, 124])
 (.cond 124 (.exit 6) .skip))
 (.reg true [(J 125 0),(J 126 12),(J 127 0),(J 128 12),(q 129 (.bin .sub 128 (ci 1))),(J 130 0),(J 131 12),(q 132 (.bin .sub 131 (ci 1))),(q 133 (.iaddr 2 130 132)),(q 134 (.load (some 2) 133)),(J 135 0),(J 136 12),(q 137 (.iaddr 2 135 136)),(q 138 (.load (some 2) 137)),(q 139 (.iaddr 2 125 126)),⟨none, .store true 2 139 134, none, []⟩,(q 140 (.iaddr 2 127 129)),⟨none, .store true 2 140 138, none, []⟩] [0, 1, 2, 3, 9, 10, 12])))
 (.reg false [(J 110 12),(q 111 (.bin .add 110 (ci 1))),(J 12 111)] [0, 1, 2, 3, 9, 10, 12])))
def f52_l3 : VCode :=
 (.seq (.seq (K [(J 15 10),(q 16 (.bin .lss 15 (ci 5)))] [0, 1, 2, 3, 9, 10, 16])
 (.cond 16 .skip (.exit 0)))
 (.seq (.block 1 (.seq (.block 2 (.loop [0, 1, 2, 3, 9, 10] f52_l0))
 (.seq (.seq (K [(J 39 9),(J 40 2),(q 41 (.bin .eql 39 40))] [0, 1, 2, 3, 9, 10, 41])
 (.cond 41 (.seq (K [(q 8 (.mov (.c (.bool true))))] [8])
 .ret) .skip))
 (.seq (.seq (K [(J 42 2),(J 43 1),(q 44 (.bin .sub 42 43)),(q 45 (.bin .lss 44 (ci 50)))] [0, 1, 2, 3, 9, 10, 45])
 (.cond 45 (.seq (K [(q 8 (.mov (.c (.bool false))))] [8])
 .ret) .skip))
 (.seq (B [(J 46 0),(J 47 9),(J 48 0),(J 49 9),(q 50 (.bin .sub 49 (ci 1))),(J 51 0),(J 52 9),(q 53 (.bin .sub 52 (ci 1))),(q 54 (.iaddr 2 51 53)),(q 55 (.load (some 2) 54)),(J 56 0),(J 57 9),(q 58 (.iaddr 2 56 57)),(q 59 (.load (some 2) 58)),(q 60 (.iaddr 2 46 47)),⟨none, .store true 2 60 55, none, []⟩,(q 61 (.iaddr 2 48 50)),⟨none, .store true 2 61 59, none, []⟩] [0, 1, 2, 3, 9, 10])
 (.seq (.seq (K [(J 62 9),(J 63 1),(q 64 (.bin .sub 62 63)),(q 65 (.bin .geq 64 (ci 2)))] [0, 1, 2, 3, 9, 10, 65])
 (.cond 65 (.seq (K [(J 66 9),(q 67 (.bin .sub 66 (ci 1))),(J 11 67)] [0, 1, 2, 3, 9, 10, 11])
 (.block 4 (.loop [0, 1, 2, 3, 9, 10, 11] f52_l1))) .skip))
 (.seq (K [(J 101 2),(J 102 9),(q 103 (.bin .sub 101 102)),(q 104 (.bin .geq 103 (ci 2)))] [0, 1, 2, 3, 9, 10, 104])
 (.cond 104 (.seq (K [(J 105 9),(q 106 (.bin .add 105 (ci 1))),(J 12 106)] [0, 1, 2, 3, 9, 10, 12])
 (.block 6 (.loop [0, 1, 2, 3, 9, 10, 12] f52_l2))) .skip))))))))
 (.reg false [(J 17 10),(q 18 (.bin .add 17 (ci 1))),(J 10 18)] [0, 1, 2, 3, 9, 10])))
def f52_c : VCode :=
 (.seq (K [(q 8 (.mov (.c (.bool false))))] [0, 1, 2, 3])
 (.seq (K [(J 13 1),(q 14 (.bin .add 13 (ci 1))),(J 9 14)] [0, 1, 2, 3, 9])
 (.seq (.seq (K [(q 10 (.mov (ci 0)))] [0, 1, 2, 3, 9, 10])
 (.block 0 (.loop [0, 1, 2, 3, 9, 10] f52_l3)))
 (.seq (K [(q 8 (.mov (.c (.bool false))))] [8])
 .ret))))
def f52 : VFn := ⟨4, 141, f52_c, [.t 8], false, [0]⟩
def f53_l0 : VCode :=
 (.seq (.seq (B [(J 31 11),(J 32 12),(q 33 (.bin .leq 31 32)),(J 34 33),(Z 35 4 34),(Z 36 0 34),(Z 37 1 34),(Y 38 (.iaddr 2 36 37) 34),(Y 39 (.load (some 2) 38) 34),(Z 40 0 34),(Z 41 11 34),(Y 42 (.iaddr 2 40 41) 34),(Y 43 (.load (some 2) 42) 34),(Y 44 (.call 35 [39, 43]) 34),(Y 45 (.bin .lss 44 (ci 0)) 34),(Y 46 (.un .not 45) 34),(q 47 (.pick 34 46 (.c (.bool false))))] [0, 1, 4, 11, 12, 47])
 (.cond 47 .skip (.exit 2)))
 (.block 3 (.reg false [(J 48 11),(q 49 (.bin .add 48 (ci 1))),(J 11 49)] [0, 1, 4, 11, 12])))
def f53_l1 : VCode :=
 (.seq (.seq (B [(J 50 11),(J 51 12),(q 52 (.bin .leq 50 51)),(J 53 52),(Z 54 4 53),(Z 55 0 53),(Z 56 1 53),(Y 57 (.iaddr 2 55 56) 53),(Y 58 (.load (some 2) 57) 53),(Z 59 0 53),(Z 60 12 53),(Y 61 (.iaddr 2 59 60) 53),(Y 62 (.load (some 2) 61) 53),(Y 63 (.call 54 [58, 62]) 53),(Y 64 (.bin .lss 63 (ci 0)) 53),(q 65 (.pick 53 64 (.c (.bool false))))] [0, 1, 4, 11, 12, 65])
 (.cond 65 .skip (.exit 4)))
 (.block 5 (.reg false [(J 66 12),(q 67 (.bin .sub 66 (ci 1))),(J 12 67)] [0, 1, 4, 11, 12])))
def f53_l2 : VCode :=
 (.block 1 (.seq (.block 2 (.loop [0, 1, 4, 11, 12] f53_l0))
 (.seq (.block 4 (.loop [0, 1, 4, 11, 12] f53_l1))
 (.seq (.seq (K [(J 68 11),(J 69 12),(q 70 (.bin .gtr 68 69))] [0, 1, 4, 11, 12, 70])
 (.cond 70 (.exit 0) .skip))
 (.seq (B [(J 71 0),(J 72 11),(J 73 0),(J 74 12),(J 75 0),(J 76 12),(q 77 (.iaddr 2 75 76)),(q 78 (.load (some 2) 77)),(J 79 0),(J 80 11),(q 81 (.iaddr 2 79 80)),(q 82 (.load (some 2) 81)),(q 83 (.iaddr 2 71 72)),⟨none, .store true 2 83 78, none, []⟩,(q 84 (.iaddr 2 73 74)),⟨none, .store true 2 84 82, none, []⟩] [0, 1, 4, 11, 12])
 (.seq (K [(J 85 11),(q 86 (.bin .add 85 (ci 1))),(J 11 86)] [0, 1, 4, 11, 12])
 (.reg false [(J 87 12),(q 88 (.bin .sub 87 (ci 1))),(J 12 88)] [0, 1, 4, 11, 12])))))))
def f53_c : VCode :=
 (.seq (K [(q 10 (.mov (ci 0)))] [0, 1, 2, 3, 4])
 (.seq (B [(J 13 0),(J 14 1),(J 15 0),(J 16 3),(J 17 0),(J 18 3),(q 19 (.iaddr 2 17 18)),(q 20 (.load (some 2) 19)),(J 21 0),(J 22 1),(q 23 (.iaddr 2 21 22)),(q 24 (.load (some 2) 23)),(q 25 (.iaddr 2 13 14)),⟨none, .store true 2 25 20, none, []⟩,(q 26 (.iaddr 2 15 16)),⟨none, .store true 2 26 24, none, []⟩] [0, 1, 2, 4])
 (.seq (K [(J 27 1),(q 28 (.bin .add 27 (ci 1))),(J 29 2),(q 30 (.bin .sub 29 (ci 1))),(J 11 28),(J 12 30)] [0, 1, 4, 11, 12])
 (.seq (.block 0 (.loop [0, 1, 4, 11, 12] f53_l2))
 (.seq (K [(J 89 11),(J 10 89)] [10])
 .ret)))))
def f53 : VFn := ⟨5, 90, f53_c, [.t 10], false, [0]⟩
def f54_l0 : VCode :=
 (.seq (.seq (B [(J 32 12),(J 33 13),(q 34 (.bin .leq 32 33)),(J 35 34),(Z 36 4 35),(Z 37 0 35),(Z 38 12 35),(Y 39 (.iaddr 2 37 38) 35),(Y 40 (.load (some 2) 39) 35),(Z 41 0 35),(Z 42 1 35),(Y 43 (.iaddr 2 41 42) 35),(Y 44 (.load (some 2) 43) 35),(Y 45 (.call 36 [40, 44]) 35),(Y 46 (.bin .lss 45 (ci 0)) 35),(q 47 (.pick 35 46 (.c (.bool false))))] [0, 1, 4, 12, 13, 47])
 (.cond 47 .skip (.exit 0)))
 (.block 1 (.reg false [(J 48 12),(q 49 (.bin .add 48 (ci 1))),(J 12 49)] [0, 1, 4, 12, 13])))
def f54_l1 : VCode :=
 (.seq (.seq (B [(J 50 12),(J 51 13),(q 52 (.bin .leq 50 51)),(J 53 52),(Z 54 4 53),(Z 55 0 53),(Z 56 13 53),(Y 57 (.iaddr 2 55 56) 53),(Y 58 (.load (some 2) 57) 53),(Z 59 0 53),(Z 60 1 53),(Y 61 (.iaddr 2 59 60) 53),(Y 62 (.load (some 2) 61) 53),(Y 63 (.call 54 [58, 62]) 53),(Y 64 (.bin .lss 63 (ci 0)) 53),(Y 65 (.un .not 64) 53),(q 66 (.pick 53 65 (.c (.bool false))))] [0, 1, 4, 12, 13, 66])
 (.cond 66 .skip (.exit 2)))
 (.block 3 (.reg false [(J 67 13),(q 68 (.bin .sub 67 (ci 1))),(J 13 68)] [0, 1, 4, 12, 13])))
def f54_l2 : VCode :=
 (.seq (.seq (B [(J 105 12),(J 106 13),(q 107 (.bin .leq 105 106)),(J 108 107),(Z 109 4 108),(Z 110 0 108),(Z 111 12 108),(Y 112 (.iaddr 2 110 111) 108),(Y 113 (.load (some 2) 112) 108),(Z 114 0 108),(Z 115 1 108),(Y 116 (.iaddr 2 114 115) 108),(Y 117 (.load (some 2) 116) 108),(Y 118 (.call 109 [113, 117]) 108),(Y 119 (.bin .lss 118 (ci 0)) 108),(q 120 (.pick 108 119 (.c (.bool false))))] [0, 1, 4, 12, 13, 120])
 (.cond 120 .skip (.exit 6)))
 (.block 7 (.reg false [(J 121 12),(q 122 (.bin .add 121 (ci 1))),(J 12 122)] [0, 1, 4, 12, 13])))
def f54_l3 : VCode :=
 (.seq (.seq (B [(J 123 12),(J 124 13),(q 125 (.bin .leq 123 124)),(J 126 125),(Z 127 4 126),(Z 128 0 126),(Z 129 13 126),(Y 130 (.iaddr 2 128 129) 126),(Y 131 (.load (some 2) 130) 126),(Z 132 0 126),(Z 133 1 126),(Y 134 (.iaddr 2 132 133) 126),(Y 135 (.load (some 2) 134) 126),(Y 136 (.call 127 [131, 135]) 126),(Y 137 (.bin .lss 136 (ci 0)) 126),(Y 138 (.un .not 137) 126),(q 139 (.pick 126 138 (.c (.bool false))))] [0, 1, 4, 12, 13, 139])
 (.cond 139 .skip (.exit 8)))
 (.block 9 (.reg false [(J 140 13),(q 141 (.bin .sub 140 (ci 1))),(J 13 141)] [0, 1, 4, 12, 13])))
def f54_l4 : VCode :=
 (.block 5 (.seq (.block 6 (.loop [0, 1, 4, 12, 13] f54_l2))
 (.seq (.block 8 (.loop [0, 1, 4, 12, 13] f54_l3))
 (.seq (.seq (K [(J 142 12),(J 143 13),(q 144 (.bin .gtr 142 143))] [0, 1, 4, 12, 13, 144])
 (.cond 144 (.exit 4) .skip))
 (.seq (B [(J 145 0),(J 146 12),(J 147 0),(J 148 13),(J 149 0),(J 150 13),(q 151 (.iaddr 2 149 150)),(q 152 (.load (some 2) 151)),(J 153 0),(J 154 12),(q 155 (.iaddr 2 153 154)),(q 156 (.load (some 2) 155)),(q 157 (.iaddr 2 145 146)),⟨none, .store true 2 157 152, none, []⟩,(q 158 (.iaddr 2 147 148)),⟨none, .store true 2 158 156, none, []⟩] [0, 1, 4, 12, 13])
 (.seq (K [(J 159 12),(q 160 (.bin .add 159 (ci 1))),(J 12 160)] [0, 1, 4, 12, 13])
 (.reg false [(J 161 13),(q 162 (.bin .sub 161 (ci 1))),(J 13 162)] [0, 1, 4, 12, 13])))))))
def f54_c : VCode :=
 (.seq (K [(q 10 (.mov (ci 0))),(q 11 (.mov (.c (.bool false))))] [0, 1, 2, 3, 4])
 (.seq (B [(J 14 0),(J 15 1),(J 16 0),(J 17 3),(J 18 0),(J 19 3),(q 20 (.iaddr 2 18 19)),(q 21 (.load (some 2) 20)),(J 22 0),(J 23 1),(q 24 (.iaddr 2 22 23)),(q 25 (.load (some 2) 24)),(q 26 (.iaddr 2 14 15)),⟨none, .store true 2 26 21, none, []⟩,(q 27 (.iaddr 2 16 17)),⟨none, .store true 2 27 25, none, []⟩] [0, 1, 2, 4])
 (.seq (K [(J 28 1),(q 29 (.bin .add 28 (ci 1))),(J 30 2),(q 31 (.bin .sub 30 (ci 1))),(J 12 29),(J 13 31)] [0, 1, 4, 12, 13])
 (.seq (.block 0 (.loop [0, 1, 4, 12, 13] f54_l0))
 (.seq (.block 2 (.loop [0, 1, 4, 12, 13] f54_l1))
 (.seq (.seq (K [(J 69 12),(J 70 13),(q 71 (.bin .gtr 69 70))] [0, 1, 4, 12, 13, 71])
 (.cond 71 (.seq (B [(J 72 0),(J 73 13),(J 74 0),(J 75 1),(J 76 0),(J 77 1),(q 78 (.iaddr 2 76 77)),(q 79 (.load (some 2) 78)),(J 80 0),(J 81 13),(q 82 (.iaddr 2 80 81)),(q 83 (.load (some 2) 82)),(q 84 (.iaddr 2 72 73)),⟨none, .store true 2 84 79, none, []⟩,(q 85 (.iaddr 2 74 75)),⟨none, .store true 2 85 83, none, []⟩] [13])
 (.seq (K [(J 86 13),(J 10 86),(q 11 (.mov (.c (.bool true))))] [10, 11])
 .ret)) .skip))
 (.seq (B [(J 87 0),(J 88 12),(J 89 0),(J 90 13),(J 91 0),(J 92 13),(q 93 (.iaddr 2 91 92)),(q 94 (.load (some 2) 93)),(J 95 0),(J 96 12),(q 97 (.iaddr 2 95 96)),(q 98 (.load (some 2) 97)),(q 99 (.iaddr 2 87 88)),⟨none, .store true 2 99 94, none, []⟩,(q 100 (.iaddr 2 89 90)),⟨none, .store true 2 100 98, none, []⟩] [0, 1, 4, 12, 13])
 (.seq (K [(J 101 12),(q 102 (.bin .add 101 (ci 1))),(J 12 102)] [0, 1, 4, 12, 13])
 (.seq (K [(J 103 13),(q 104 (.bin .sub 103 (ci 1))),(J 13 104)] [0, 1, 4, 12, 13])
 (.seq (.block 4 (.loop [0, 1, 4, 12, 13] f54_l4))
 (.seq (B [(J 163 0),(J 164 13),(J 165 0),(J 166 1),(J 167 0),(J 168 1),(q 169 (.iaddr 2 167 168)),(q 170 (.load (some 2) 169)),(J 171 0),(J 172 13),(q 173 (.iaddr 2 171 172)),(q 174 (.load (some 2) 173)),(q 175 (.iaddr 2 163 164)),⟨none, .store true 2 175 170, none, []⟩,(q 176 (.iaddr 2 165 166)),⟨none, .store true 2 176 174, none, []⟩] [13])
 (.seq (K [(J 177 13),(J 10 177),(q 11 (.mov (.c (.bool false))))] [10, 11])
 .ret))))))))))))
def f54 : VFn := ⟨5, 178, f54_c, [.t 10, .t 11], false, [0]⟩
def f55_c : VCode :=
 (.seq (K [(q 2 (.mov (ci 0)))] [0, 2])
 (.seq (.seq (K [(J 3 0),(q 4 (.bin .geq 3 (.c (.int .u32 65536))))] [0, 2, 4])
 (.cond 4 (.seq (K [(J 5 0),(q 6 (.bin .shr 5 (.c (.int .u64 16)))),(J 0 6)] [0])
 (.reg false [(q 2 (.mov (ci 16)))] [0, 2])) .skip))
 (.seq (.seq (K [(J 7 0),(q 8 (.bin .geq 7 (.c (.int .u32 256))))] [0, 2, 8])
 (.cond 8 (.seq (K [(J 9 0),(q 10 (.bin .shr 9 (.c (.int .u64 8)))),(J 0 10)] [0, 2])
 (.reg false [(J 11 2),(q 12 (.bin .add 11 (ci 8))),(J 2 12)] [0, 2])) .skip))
 (.seq (K [(J 13 2),(J 14 0),(q 15 (.conv (.toInt .u8) 14)),(q 16 (.idxs (.c (.str ⟨#[0, 1, 2, 2, 3, 3, 3, 3, 4, 4, 4, 4, 4, 4, 4, 4, 5, 5, 5, 5, 5, 5, 5, 5, 5, 5, 5, 5, 5, 5, 5, 5, 6, 6, 6, 6, 6, 6, 6, 6, 6, 6, 6, 6, 6, 6, 6, 6, 6, 6, 6, 6, 6, 6, 6, 6, 6, 6, 6, 6, 6, 6, 6, 6, 7, 7, 7, 7, 7, 7, 7, 7, 7, 7, 7, 7, 7, 7, 7, 7, 7, 7, 7, 7, 7, 7, 7, 7, 7, 7, 7, 7, 7, 7, 7, 7, 7, 7, 7, 7, 7, 7, 7, 7, 7, 7, 7, 7, 7, 7, 7, 7, 7, 7, 7, 7, 7, 7, 7, 7, 7, 7, 7, 7, 7, 7, 7, 7, 8, 8, 8, 8, 8, 8, 8, 8, 8, 8, 8, 8, 8, 8, 8, 8, 8, 8, 8, 8, 8, 8, 8, 8, 8, 8, 8, 8, 8, 8, 8, 8, 8, 8, 8, 8, 8, 8, 8, 8, 8, 8, 8, 8, 8, 8, 8, 8, 8, 8, 8, 8, 8, 8, 8, 8, 8, 8, 8, 8, 8, 8, 8, 8, 8, 8, 8, 8, 8, 8, 8, 8, 8, 8, 8, 8, 8, 8, 8, 8, 8, 8, 8, 8, 8, 8, 8, 8, 8, 8, 8, 8, 8, 8, 8, 8, 8, 8, 8, 8, 8, 8, 8, 8, 8, 8, 8, 8, 8, 8, 8, 8, 8, 8, 8, 8, 8, 8, 8, 8, 8, 8, 8, 8, 8, 8, 8, 8]⟩)) 15)),(q 17 (.conv (.toInt .i64) 16)),(q 18 (.bin .add 13 17)),(J 2 18)] [2])
 .ret))))
def f55 : VFn := ⟨1, 19, f55_c, [.t 2], true, []⟩
def f56_c : VCode :=
 (.seq (K [(q 2 (.mov (ci 0)))] [0, 2])
 (.seq (.seq (K [(J 3 0),(q 4 (.bin .geq 3 (.c (.int .u64 4294967296))))] [0, 2, 4])
 (.cond 4 (.seq (K [(J 5 0),(q 6 (.bin .shr 5 (.c (.int .u64 32)))),(J 0 6)] [0])
 (.reg false [(q 2 (.mov (ci 32)))] [0, 2])) .skip))
 (.seq (.seq (K [(J 7 0),(q 8 (.bin .geq 7 (.c (.int .u64 65536))))] [0, 2, 8])
 (.cond 8 (.seq (K [(J 9 0),(q 10 (.bin .shr 9 (.c (.int .u64 16)))),(J 0 10)] [0, 2])
 (.reg false [(J 11 2),(q 12 (.bin .add 11 (ci 16))),(J 2 12)] [0, 2])) .skip))
 (.seq (.seq (K [(J 13 0),(q 14 (.bin .geq 13 (.c (.int .u64 256))))] [0, 2, 14])
 (.cond 14 (.seq (K [(J 15 0),(q 16 (.bin .shr 15 (.c (.int .u64 8)))),(J 0 16)] [0, 2])
 (.reg false [(J 17 2),(q 18 (.bin .add 17 (ci 8))),(J 2 18)] [0, 2])) .skip))
 (.seq (K [(J 19 2),(J 20 0),(q 21 (.conv (.toInt .u8) 20)),(q 22 (.idxs (.c (.str ⟨#[0, 1, 2, 2, 3, 3, 3, 3, 4, 4, 4, 4, 4, 4, 4, 4, 5, 5, 5, 5, 5, 5, 5, 5, 5, 5, 5, 5, 5, 5, 5, 5, 6, 6, 6, 6, 6, 6, 6, 6, 6, 6, 6, 6, 6, 6, 6, 6, 6, 6, 6, 6, 6, 6, 6, 6, 6, 6, 6, 6, 6, 6, 6, 6, 7, 7, 7, 7, 7, 7, 7, 7, 7, 7, 7, 7, 7, 7, 7, 7, 7, 7, 7, 7, 7, 7, 7, 7, 7, 7, 7, 7, 7, 7, 7, 7, 7, 7, 7, 7, 7, 7, 7, 7, 7, 7, 7, 7, 7, 7, 7, 7, 7, 7, 7, 7, 7, 7, 7, 7, 7, 7, 7, 7, 7, 7, 7, 7, 8, 8, 8, 8, 8, 8, 8, 8, 8, 8, 8, 8, 8, 8, 8, 8, 8, 8, 8, 8, 8, 8, 8, 8, 8, 8, 8, 8, 8, 8, 8, 8, 8, 8, 8, 8, 8, 8, 8, 8, 8, 8, 8, 8, 8, 8, 8, 8, 8, 8, 8, 8, 8, 8, 8, 8, 8, 8, 8, 8, 8, 8, 8, 8, 8, 8, 8, 8, 8, 8, 8, 8, 8, 8, 8, 8, 8, 8, 8, 8, 8, 8, 8, 8, 8, 8, 8, 8, 8, 8, 8, 8, 8, 8, 8, 8, 8, 8, 8, 8, 8, 8, 8, 8, 8, 8, 8, 8, 8, 8, 8, 8, 8, 8, 8, 8, 8, 8, 8, 8, 8, 8, 8, 8, 8, 8, 8, 8]⟩)) 21)),(q 23 (.conv (.toInt .i64) 22)),(q 24 (.bin .add 19 23)),(J 2 24)] [2])
 .ret)))))
def f56 : VFn := ⟨1, 25, f56_c, [.t 2], true, []⟩
def f57_c : VCode :=
 (.reg true [(q 2 (.load none 0)),(q 3 (.nilck 2)),(q 4 (.faddr 0 3)),(q 5 (.load none 4)),(q 6 (.load none 1)),(q 7 (.load none 0)),(q 8 (.nilck 7)),(q 9 (.faddr 0 8)),(q 10 (.load none 9)),(q 11 (.len 10)),(q 12 (.iaddr 4 5 6)),(q 13 (.faddr 3 12)),⟨none, .store false 1 13 11, none, []⟩] [])
def f57 : VFn := ⟨2, 14, f57_c, [], true, []⟩
def f58_c : VCode :=
 (.reg true [(q 4 (.load none 1)),(q 5 (.nilck 4)),(q 6 (.faddr 0 5)),(q 7 (.load none 6)),(q 8 (.load none 2)),(q 9 (.load none 1)),(q 10 (.nilck 9)),(q 11 (.faddr 0 10)),(q 12 (.load none 11)),(q 13 (.load none 2)),(J 14 0),(J 15 0),(q 16 (.iaddr 4 7 8)),(q 17 (.faddr 2 16)),⟨none, .store false 1 17 14, none, [2]⟩,(q 18 (.iaddr 4 12 13)),(q 19 (.faddr 3 18)),⟨none, .store false 1 19 15, none, []⟩] [])
def f58 : VFn := ⟨3, 20, f58_c, [], true, []⟩
def f59_c : VCode :=
 (.seq (K [(q 4 (.mov (.c (.bool false))))] [0, 1])
 (.seq (K [(J 5 0),(J 6 1),(q 7 (.call (cf 75) [5, 6])),(q 8 (.bin .geq 7 (ci 0))),(J 4 8)] [4])
 .ret))
def f59 : VFn := ⟨2, 9, f59_c, [.t 4], true, []⟩
def f60_c : VCode :=
 (.seq (K [(q 2 (.box true 4 0)),(q 3 (.mov (.c (.bool false))))] [1, 2])
 (.seq (K [(q 4 (.load (some 4) 2)),(q 5 (.load none 1)),(q 6 (.len 5)),(q 7 (.call (cf 61) [4, 6])),(q 8 (.un .not 7)),(J 3 8)] [3])
 .ret))
def f60 : VFn := ⟨2, 9, f60_c, [.t 3], true, []⟩
def f61_c : VCode :=
 (.seq (K [(q 2 (.box true 4 0)),(q 3 (.box false 1 1)),(q 4 (.mov (.c (.bool false))))] [2, 3])
 (.seq (.seq (K [(q 6 (.mkfunc (.func 76) [] [3])),(J 5 6)] [2, 5])
 (.frz 5))
 (.seq (B [(q 7 (.faddr 0 2)),(q 8 (.load none 7)),(q 9 (.bin .geq 8 (ci 1))),(J 10 9),(Y 11 (.faddr 0 2) 10),(Y 12 (.load none 11) 10),(Y 13 (.bin .leq 12 (ci 7)) 10),(q 14 (.pick 10 13 (.c (.bool false)))),(J 15 14),(Z 16 5 15),(Y 17 (.faddr 2 2) 15),(Y 18 (.load none 17) 15),(Y 19 (.faddr 0 2) 15),(Y 20 (.load none 19) 15),(Y 21 (.bin .neq 20 (ci 7)) 15),(Y 22 (.call 16 [18, 21]) 15),(q 23 (.pick 15 22 (.c (.bool false)))),(J 24 23),(Z 25 5 24),(Y 26 (.faddr 3 2) 24),(Y 27 (.load none 26) 24),(Y 28 (.faddr 0 2) 24),(Y 29 (.load none 28) 24),(Y 30 (.bin .eql 29 (ci 2)) 24),(Y 31 (.call 25 [27, 30]) 24),(q 32 (.pick 24 31 (.c (.bool false)))),(J 33 32),(Y 34 (.faddr 0 2) 33),(Y 35 (.load none 34) 33),(Y 36 (.bin .eql 35 (ci 1)) 33),(Z 37 36 33),⟨(some 38), .faddr 1 2, (some (37, false)), []⟩,⟨(some 39), .load none 38, (some (37, false)), []⟩,⟨(some 40), .len 39, (some (37, false)), []⟩,⟨(some 41), .bin .eql 40 (ci 0), (some (37, false)), []⟩,(Y 42 (.pick 37 (.c (.bool true)) 41) 33),(q 43 (.pick 33 42 (.c (.bool false)))),(J 44 43),(Y 45 (.faddr 1 2) 44),(Y 46 (.load none 45) 44),(Y 47 (.call (cf 7) [46]) 44),(Y 48 (.faddr 1 2) 44),(Y 49 (.load none 48) 44),(Y 50 (.call (cf 77) [47, 49]) 44),(q 51 (.pick 44 50 (.c (.bool false)))),(J 4 51)] [4])
 .ret)))
def f61 : VFn := ⟨2, 52, f61_c, [.t 4], true, []⟩
def f62_l0 : VCode :=
 (.seq (K [(q 12 (.bin .lss 11 10))] [0, 4, 5, 6, 9, 10, 11, 12])
 (.seq (.cond 12 .skip (.exit 0))
 (.seq (.block 1 (.seq (K [(J 13 11),(q 14 (.iaddr 1 9 11)),(q 15 (.load none 14)),(J 7 13),(J 8 15)] [0, 4, 5, 6, 7, 8, 9, 10, 11])
 (.seq (.seq (K [(J 16 4),(q 17 (.bin .eql 16 (ci 0)))] [0, 4, 5, 6, 7, 8, 9, 10, 11, 17])
 (.cond 17 (.seq (K [(J 19 8),(q 20 (.call (cf 78) [19])),(J 18 20),(E 21 18 0),(E 22 18 1),(E 23 18 2),(J 4 21),(J 5 22),(J 6 23)] [0, 4, 5, 6, 7, 9, 10, 11])
 (.seq (.seq (K [(J 24 4),(q 25 (.bin .lss 24 (ci 0)))] [0, 4, 5, 6, 7, 9, 10, 11, 25])
 (.cond 25 (.seq (K [(J 26 7),(J 2 26),(q 3 (.mov (.c (.bool false))))] [2, 3])
 .ret) .skip))
 (.exit 1))) .skip))
 (.seq (.seq (K [(J 27 8),(J 28 5),(q 29 (.bin .lss 27 28)),(J 30 29),⟨(some 31), .mov 8, (some (30, false)), []⟩,⟨(some 32), .mov 6, (some (30, false)), []⟩,⟨(some 33), .bin .gtr 31 32, (some (30, false)), []⟩,(q 34 (.pick 30 (.c (.bool true)) 33))] [0, 4, 7, 9, 10, 11, 34])
 (.cond 34 (.seq (K [(J 35 7),(J 2 35),(q 3 (.mov (.c (.bool false))))] [2, 3])
 .ret) .skip))
 (.seq (K [(J 36 4),(q 37 (.bin .sub 36 (ci 1))),(J 4 37)] [0, 4, 9, 10, 11])
 (.reg false [(q 5 (.mov (.c (.int .u8 128)))),(q 6 (.mov (.c (.int .u8 191))))] [0, 4, 5, 6, 9, 10, 11]))))))
 (.reg false [(q 38 (.bin .add 11 (ci 1))),(J 11 38)] [0, 4, 5, 6, 9, 10, 11]))))
def f62_c : VCode :=
 (.seq (K [(q 2 (.mov (ci 0))),(q 3 (.mov (.c (.bool false))))] [0])
 (.seq (K [(q 4 (.mov (ci 0)))] [0, 4])
 (.seq (K [(q 5 (.mov (.c (.int .u8 128)))),(q 6 (.mov (.c (.int .u8 191))))] [0, 4, 5, 6])
 (.seq (.seq (K [(J 9 0),(q 10 (.len 9)),(q 11 (.mov (ci 0)))] [0, 4, 5, 6, 9, 10, 11])
 (.block 0 (.loop [0, 4, 5, 6, 9, 10, 11] f62_l0)))
 (.seq (K [(J 39 0),(q 40 (.len 39)),(J 41 4),(q 42 (.bin .eql 41 (ci 0))),(J 2 40),(J 3 42)] [2, 3])
 .ret)))))
def f62 : VFn := ⟨1, 43, f62_c, [.t 2, .t 3], true, []⟩
def f63_c : VCode :=
 (.seq (K [(q 6 (.mov (.c (.bool false))))] [0, 1, 2])
 (.seq (.seq (K [(J 7 1)] [0, 2, 7])
 (.block 0 (.seq (K [(q 9 (.bin .eql 7 (ci 2))),(J 8 9)] [0, 2, 7, 8])
 (.cond 8 (.seq (K [(q 6 (.mov (.c (.bool true))))] [6])
 .ret) (.seq (K [(q 11 (.bin .eql 7 (ci 3))),(J 10 11)] [0, 2, 7, 10])
 (.cond 10 (.seq (K [(J 12 2),(q 13 (.bin .eql 12 (ci 0))),(J 6 13)] [6])
 .ret) (.seq (K [(q 15 (.bin .eql 7 (ci 4))),(J 14 15)] [0, 2, 7, 14])
 (.cond 14 (.seq (K [(J 16 2),(J 17 0),(q 18 (.nilck 17)),(q 19 (.faddr 1 18)),(q 20 (.load none 19)),(q 21 (.len 20)),(q 22 (.bin .eql 16 21)),(J 6 22)] [6])
 .ret) (.seq (K [(q 24 (.bin .eql 7 (ci 5))),(J 23 24)] [0, 2, 7, 23])
 (.cond 23 (.seq (K [(J 25 0),(J 26 2),(q 27 (.call (cf 79) [25, 26])),(J 6 27)] [6])
 .ret) (.seq (K [(q 29 (.bin .eql 7 (ci 6))),(J 28 29)] [0, 2, 28])
 (.cond 28 (.seq (K [(J 30 0),(J 31 2),(q 32 (.call (cf 79) [30, 31])),(q 33 (.un .not 32)),(J 6 33)] [6])
 .ret) .skip))))))))))))
 (.seq (K [(q 6 (.mov (.c (.bool false))))] [6])
 .ret)))
def f63 : VFn := ⟨3, 34, f63_c, [.t 6], true, []⟩
def f64_l0 : VCode :=
 (.seq (.seq (K [(J 4 0),(q 5 (.nilck 4)),(q 6 (.faddr 0 5)),(q 7 (.load none 6)),(q 8 (.len 7)),(q 9 (.bin .gtr 8 (ci 0))),(J 10 9),(Z 11 0 10),(Y 12 (.call (cf 81) [11]) 10),(Y 13 (.call (cf 80) [12, (.c (.str ⟨#[124, 41]⟩))]) 10),(Y 14 (.un .not 13) 10),(q 15 (.pick 10 14 (.c (.bool false))))] [0, 2, 3, 15])
 (.cond 15 .skip (.exit 0)))
 (.block 1 (.reg false [(J 16 3),(J 17 0),(q 18 (.call (cf 82) [17])),(q 19 (.buildRow true 6 1 [(.int .i64 0), (.sl 0 [] true), (.int .i64 0), (.int .i64 0), (.bool false), (.sl 0 [] true)] [(0, 18)])),(q 20 (.append 6 80 16 19)),(J 3 20)] [0, 2, 3])))
def f64_c : VCode :=
 (.seq (K [(q 2 (.alloc true [(.int .i64 0), (.sl 0 [] true), (.int .i64 0), (.int .i64 0), (.bool false), (.sl 0 [] true)]))] [0, 2])
 (.seq (K [(q 3 (.nilrow 6))] [0, 2, 3])
 (.seq (.block 0 (.loop [0, 2, 3] f64_l0))
 (.seq (K [(J 21 3),(q 22 (.call (cf 66) [(ci 3), 21])),⟨none, .store true 6 2 22, none, []⟩] [2])
 .ret))))
def f64 : VFn := ⟨1, 23, f64_c, [.c 2 (some 6)], true, []⟩
def f65_l0 : VCode :=
 (.seq (K [(q 19 (.bin .lss 18 17))] [0, 1, 16, 17, 18, 19])
 (.seq (.cond 19 .skip (.exit 0))
 (.seq (.block 1 (.seq (K [(J 20 18),(q 21 (.iaddr 1 16 18)),(q 22 (.load none 21)),(J 5 20),(J 6 22)] [0, 1, 5, 6, 16, 17, 18])
 (.seq (K [(J 23 0),(q 24 (.nilck 23)),(q 25 (.faddr 0 24)),(q 26 (.load none 25)),(J 27 5),(q 28 (.iaddr 1 26 27)),(q 29 (.load none 28)),(J 30 6),(q 31 (.conv (.toInt .i64) 30)),(q 32 (.bin .neq 29 31))] [0, 1, 16, 17, 18, 32])
 (.cond 32 (.seq (K [(q 4 (.mov (.c (.bool false))))] [4])
 .ret) .skip))))
 (.reg false [(q 33 (.bin .add 18 (ci 1))),(J 18 33)] [0, 1, 16, 17, 18]))))
def f65_c : VCode :=
 (.seq (K [(q 4 (.mov (.c (.bool false))))] [0, 1])
 (.seq (.seq (K [(J 7 0),(q 8 (.nilck 7)),(q 9 (.faddr 0 8)),(q 10 (.load none 9)),(q 11 (.len 10)),(J 12 1),(q 13 (.lens 12)),(q 14 (.bin .lss 11 13))] [0, 1, 14])
 (.cond 14 (.seq (K [(q 4 (.mov (.c (.bool false))))] [4])
 .ret) .skip))
 (.seq (.seq (K [(J 15 1),(q 16 (.conv .strToBytes 15)),(q 17 (.len 16)),(q 18 (.mov (ci 0)))] [0, 1, 16, 17, 18])
 (.block 0 (.loop [0, 1, 16, 17, 18] f65_l0)))
 (.seq (K [(J 34 0),(J 35 0),(q 36 (.nilck 35)),(q 37 (.faddr 0 36)),(q 38 (.load none 37)),(J 39 1),(q 40 (.lens 39)),(q 41 (.sl 1 38 (some 40) none none)),(q 42 (.nilck 34)),(q 43 (.faddr 0 42)),⟨none, .store false 1 43 41, none, []⟩] [])
 (.seq (K [(q 4 (.mov (.c (.bool true))))] [4])
 .ret)))))
def f65 : VFn := ⟨2, 44, f65_c, [.t 4], true, []⟩
def f66_c : VCode :=
 (.seq (K [(q 4 (.alloc true [(.int .i64 0), (.sl 0 [] true), (.int .i64 0), (.int .i64 0), (.bool false), (.sl 0 [] true)]))] [0, 1, 4])
 (.seq (.seq (K [(J 5 1),(q 6 (.len 5))] [0, 1, 4, 6])
 (.block 0 (.seq (K [(q 8 (.bin .eql 6 (ci 0))),(J 7 8)] [0, 1, 4, 6, 7])
 (.cond 7 (.seq (K [(q 9 (.build [(.int .i64 0), (.sl 0 [] true), (.int .i64 0), (.int .i64 0), (.bool false), (.sl 0 [] true)] [(0, 1, (ci 1))])),⟨none, .store true 6 4 9, none, []⟩] [4])
 .ret) (.seq (K [(q 11 (.bin .eql 6 (ci 1))),(J 10 11)] [0, 1, 4, 10])
 (.cond 10 (.seq (K [(J 12 1),(q 13 (.iaddr 6 12 (ci 0))),(q 14 (.load (some 6) 13)),⟨none, .store true 6 4 14, none, []⟩] [4])
 .ret) .skip))))))
 (.seq (K [(J 15 0),(J 16 1),(q 17 (.build [(.int .i64 0), (.sl 0 [] true), (.int .i64 0), (.int .i64 0), (.bool false), (.sl 0 [] true)] [(0, 1, 15), (5, 1, 16)])),⟨none, .store true 6 4 17, none, []⟩] [4])
 .ret)))
def f66 : VFn := ⟨2, 18, f66_c, [.c 4 (some 6)], true, []⟩
def f67_c : VCode :=
 (.seq (K [(q 2 (.mov (.c (.bool false))))] [0])
 (.seq (K [(J 3 0),(q 4 (.call (cf 7) [3])),(J 5 0),(q 6 (.call (cf 77) [4, 5])),(J 2 6)] [2])
 .ret))
def f67 : VFn := ⟨1, 7, f67_c, [.t 2], true, []⟩
def f68_c : VCode :=
 (.seq (K [(q 4 (.mov (.c (.bool false))))] [0, 1])
 (.seq (K [(J 5 0),(J 6 1),(q 7 (.call (cf 83) [5, 6])),(q 8 (.bin .geq 7 (ci 0))),(J 4 8)] [4])
 .ret))
def f68 : VFn := ⟨2, 9, f68_c, [.t 4], true, []⟩
def f69_c : VCode :=
 (.seq (K [(q 2 (.box true 6 0)),(q 3 (.mov (.c (.bool false))))] [1, 2])
 (.seq (K [(q 4 (.load (some 6) 2)),(q 5 (.load none 1)),(q 6 (.bin .sub 5 (ci 1))),(q 7 (.call (cf 46) [4, 6])),(q 8 (.un .not 7)),(J 3 8)] [3])
 .ret))
def f69 : VFn := ⟨2, 9, f69_c, [.t 3], true, []⟩
def f70_l0 : VCode :=
 (.block 1 (.seq (K [(J 13 10),(q 14 (.bin .mul (ci 2) 13)),(q 15 (.bin .add 14 (ci 1))),(J 11 15)] [0, 2, 3, 4, 10, 11])
 (.seq (.seq (K [(J 16 11),(J 17 2),(q 18 (.bin .geq 16 17))] [0, 2, 3, 4, 10, 11, 18])
 (.cond 18 (.exit 0) .skip))
 (.seq (.seq (B [(J 19 11),(q 20 (.bin .add 19 (ci 1))),(J 21 2),(q 22 (.bin .lss 20 21)),(J 23 22),(Z 24 4 23),(Z 25 0 23),(Z 26 3 23),(Z 27 11 23),(Y 28 (.bin .add 26 27) 23),(Y 29 (.iaddr 2 25 28) 23),(Y 30 (.load (some 2) 29) 23),(Z 31 0 23),(Z 32 3 23),(Z 33 11 23),(Y 34 (.bin .add 32 33) 23),(Y 35 (.bin .add 34 (ci 1)) 23),(Y 36 (.iaddr 2 31 35) 23),(Y 37 (.load (some 2) 36) 23),(Y 38 (.call 24 [30, 37]) 23),(Y 39 (.bin .lss 38 (ci 0)) 23),(q 40 (.pick 23 39 (.c (.bool false))))] [0, 2, 3, 4, 10, 11, 40])
 (.cond 40 (.reg false [(J 41 11),(q 42 (.bin .add 41 (ci 1))),(J 11 42)] [0, 2, 3, 4, 10, 11]) .skip))
 (.seq (.seq (B [(J 43 4),(J 44 0),(J 45 3),(J 46 10),(q 47 (.bin .add 45 46)),(q 48 (.iaddr 2 44 47)),(q 49 (.load (some 2) 48)),(J 50 0),(J 51 3),(J 52 11),(q 53 (.bin .add 51 52)),(q 54 (.iaddr 2 50 53)),(q 55 (.load (some 2) 54)),(q 56 (.call 43 [49, 55])),(q 57 (.bin .lss 56 (ci 0))),(q 58 (.un .not 57))] [0, 2, 3, 4, 10, 11, 58])
 (.cond 58 .ret .skip))
 (.seq (B [(J 59 0),(J 60 3),(J 61 10),(q 62 (.bin .add 60 61)),(J 63 0),(J 64 3),(J 65 11),(q 66 (.bin .add 64 65)),(J 67 0),(J 68 3),(J 69 11),(q 70 (.bin .add 68 69)),(q 71 (.iaddr 2 67 70)),(q 72 (.load (some 2) 71)),(J 73 0),(J 74 3),(J 75 10),(q 76 (.bin .add 74 75)),(q 77 (.iaddr 2 73 76)),(q 78 (.load (some 2) 77)),(q 79 (.iaddr 2 59 62)),⟨none, .store true 2 79 72, none, []⟩,(q 80 (.iaddr 2 63 66)),⟨none, .store true 2 80 78, none, []⟩] [0, 2, 3, 4, 11])
 (.reg false [(J 81 11),(J 10 81)] [0, 2, 3, 4, 10])))))))
def f70_c : VCode :=
 (.seq (K [(J 12 1),(J 10 12)] [0, 2, 3, 4, 10])
 (.block 0 (.loop [0, 2, 3, 4, 10] f70_l0)))
def f70 : VFn := ⟨5, 82, f70_c, [], false, [0]⟩
def f71_c : VCode :=
 (.seq (K [(q 2 (.mov (.c (.int .u64 0))))] [0])
 (.seq (K [(J 3 0),(q 4 (.conv (.toInt .u64) 3)),(q 5 (.call (cf 30) [4])),(q 6 (.bin .shl (.c (.int .u64 1)) 5)),(J 2 6)] [2])
 .ret))
def f71 : VFn := ⟨1, 7, f71_c, [.t 2], true, []⟩
def f72_c : VCode :=
 (.seq (K [(q 2 (.mov (.c (.int .u64 0))))] [0])
 (.seq (B [(J 3 0),(q 4 (.nilck 3)),(q 5 (.load none 4)),(J 6 0),(q 7 (.nilck 6)),(q 8 (.load none 7)),(q 9 (.bin .shl 8 (.c (.int .u64 13)))),(q 10 (.bin .xor 5 9)),(q 11 (.nilck 3)),⟨none, .store false 1 11 10, none, []⟩] [0])
 (.seq (B [(J 12 0),(q 13 (.nilck 12)),(q 14 (.load none 13)),(J 15 0),(q 16 (.nilck 15)),(q 17 (.load none 16)),(q 18 (.bin .shr 17 (.c (.int .u64 7)))),(q 19 (.bin .xor 14 18)),(q 20 (.nilck 12)),⟨none, .store false 1 20 19, none, []⟩] [0])
 (.seq (B [(J 21 0),(q 22 (.nilck 21)),(q 23 (.load none 22)),(J 24 0),(q 25 (.nilck 24)),(q 26 (.load none 25)),(q 27 (.bin .shl 26 (.c (.int .u64 17)))),(q 28 (.bin .xor 23 27)),(q 29 (.nilck 21)),⟨none, .store false 1 29 28, none, []⟩] [0])
 (.seq (K [(J 30 0),(q 31 (.nilck 30)),(q 32 (.load none 31)),(J 2 32)] [2])
 .ret)))))
def f72 : VFn := ⟨1, 33, f72_c, [.t 2], true, []⟩
def f73_c : VCode :=
 (.seq (K [(q 8 (.mov (ci 0)))] [0, 1, 2, 3])
 (.seq (K [(J 9 0),(J 10 1),(q 11 (.bin .sub 10 (ci 1))),(J 12 1),(J 13 1),(q 14 (.bin .add 13 (ci 1))),(J 15 2),(J 16 3),(q 17 (.call (cf 74) [9, 11, 12, 14, 15, 16])),(J 8 17)] [8])
 .ret))
def f73 : VFn := ⟨4, 18, f73_c, [.t 8], false, [0]⟩
def f74_c : VCode :=
 (.seq (K [(q 12 (.mov (ci 0)))] [0, 1, 2, 3, 4, 5])
 (.seq (K [(J 14 0),(J 15 1),(J 16 2),(J 17 4),(J 18 5),(q 19 (.call (cf 84) [14, 15, 16, 17, 18])),(J 13 19),(E 20 13 0),(E 21 13 1),(J 1 20),(J 2 21)] [0, 1, 2, 3, 4, 5])
 (.seq (K [(J 23 0),(J 24 2),(J 25 3),(J 26 4),(J 27 5),(q 28 (.call (cf 84) [23, 24, 25, 26, 27])),(J 22 28),(E 29 22 0),(E 30 22 1),(J 2 29),(J 3 30)] [0, 1, 2, 4, 5])
 (.seq (K [(J 32 0),(J 33 1),(J 34 2),(J 35 4),(J 36 5),(q 37 (.call (cf 84) [32, 33, 34, 35, 36])),(J 31 37),(E 38 31 0),(E 39 31 1),(J 1 38),(J 2 39)] [2])
 (.seq (K [(J 40 2),(J 12 40)] [12])
 .ret)))))
def f74 : VFn := ⟨6, 41, f74_c, [.t 12], false, [0]⟩
def f75_l0 : VCode :=
 (.seq (K [(q 9 (.bin .lss 8 7))] [0, 1, 7, 8, 9])
 (.seq (.cond 9 .skip (.exit 0))
 (.seq (.block 1 (.seq (K [(J 10 8),(J 5 10)] [0, 1, 5, 7, 8])
 (.seq (K [(J 11 1),(J 12 0),(J 13 5),(q 14 (.iaddr 4 12 13)),(q 15 (.load (some 4) 14)),(q 16 (.call 11 [15]))] [0, 1, 5, 7, 8, 16])
 (.cond 16 (.seq (K [(J 17 5),(J 4 17)] [4])
 .ret) .skip))))
 (.reg false [(q 18 (.bin .add 8 (ci 1))),(J 8 18)] [0, 1, 7, 8]))))
def f75_c : VCode :=
 (.seq (K [(q 4 (.mov (ci 0)))] [0, 1])
 (.seq (.seq (K [(J 6 0),(q 7 (.len 6)),(q 8 (.mov (ci 0)))] [0, 1, 7, 8])
 (.block 0 (.loop [0, 1, 7, 8] f75_l0)))
 (.seq (K [(q 4 (.mov (ci (-1))))] [4])
 .ret)))
def f75 : VFn := ⟨2, 19, f75_c, [.t 4], true, []⟩
def f76_c : VCode :=
 (.seq (K [(q 5 (.mov (.c (.bool false))))] [0, 1, 2])
 (.seq (K [(J 6 1),(J 7 6),(Z 8 0 7),(Y 9 (.bin .geq 8 (ci 0)) 7),(q 10 (.pick 7 9 (.c (.bool false)))),(J 11 10),(Z 12 0 11),(Y 13 (.load none 2) 11),(Y 14 (.bin .lss 12 13) 11),(q 15 (.pick 11 14 (.c (.bool false)))),(J 16 15),⟨(some 17), .mov 1, (some (16, false)), []⟩,⟨(some 18), .un .not 17, (some (16, false)), []⟩,⟨(some 19), .mov 18, (some (16, false)), []⟩,(Z 20 0 19),(Y 21 (.bin .eql 20 (ci 0)) 19),⟨(some 22), .pick 19 21 (.c (.bool false)), (some (16, false)), []⟩,(q 23 (.pick 16 (.c (.bool true)) 22)),(J 5 23)] [5])
 .ret))
def f76 : VFn := ⟨3, 24, f76_c, [.t 5], true, []⟩
def f77_l0 : VCode :=
 (.seq (K [(q 14 (.bin .lss 13 12))] [0, 1, 12, 13, 14])
 (.seq (.cond 14 .skip (.exit 0))
 (.seq (.block 1 (.seq (K [(J 15 13),(J 5 15)] [0, 1, 5, 12, 13])
 (.seq (B [(J 16 0),(J 17 5),(q 18 (.iaddr 2 16 17)),(q 19 (.load (some 2) 18)),(J 20 1),(J 21 5),(q 22 (.iaddr 2 20 21)),(q 23 (.load (some 2) 22)),(q 24 (.eqs true [.int, .int] 19 23))] [0, 1, 12, 13, 24])
 (.cond 24 (.seq (K [(q 4 (.mov (.c (.bool false))))] [4])
 .ret) .skip))))
 (.reg false [(q 25 (.bin .add 13 (ci 1))),(J 13 25)] [0, 1, 12, 13]))))
def f77_c : VCode :=
 (.seq (K [(q 4 (.mov (.c (.bool false))))] [0, 1])
 (.seq (.seq (K [(J 6 0),(q 7 (.len 6)),(J 8 1),(q 9 (.len 8)),(q 10 (.bin .neq 7 9))] [0, 1, 10])
 (.cond 10 (.seq (K [(q 4 (.mov (.c (.bool false))))] [4])
 .ret) .skip))
 (.seq (.seq (K [(J 11 0),(q 12 (.len 11)),(q 13 (.mov (ci 0)))] [0, 1, 12, 13])
 (.block 0 (.loop [0, 1, 12, 13] f77_l0)))
 (.seq (K [(q 4 (.mov (.c (.bool true))))] [4])
 .ret))))
def f77 : VFn := ⟨2, 26, f77_c, [.t 4], true, []⟩
def f78_c : VCode :=
 (.seq (K [(q 2 (.mov (ci 0))),(q 3 (.mov (.c (.int .u8 0)))),(q 4 (.mov (.c (.int .u8 0))))] [0])
 (.seq (.block 0 (.seq (K [(J 6 0),(q 7 (.bin .lss 6 (.c (.int .u8 128)))),(J 5 7)] [0, 5])
 (.cond 5 (.seq (K [(q 2 (.mov (ci 0))),(q 3 (.mov (.c (.int .u8 0)))),(q 4 (.mov (.c (.int .u8 0))))] [2, 3, 4])
 .ret) (.seq (K [(J 9 0),(q 10 (.bin .lss 9 (.c (.int .u8 194)))),(J 11 10),⟨(some 12), .mov 0, (some (11, false)), []⟩,⟨(some 13), .bin .gtr 12 (.c (.int .u8 244)), (some (11, false)), []⟩,(q 14 (.pick 11 (.c (.bool true)) 13)),(J 8 14)] [0, 8])
 (.cond 8 (.seq (K [(q 2 (.mov (ci (-1)))),(q 3 (.mov (.c (.int .u8 0)))),(q 4 (.mov (.c (.int .u8 0))))] [2, 3, 4])
 .ret) (.seq (K [(J 16 0),(q 17 (.bin .lss 16 (.c (.int .u8 224)))),(J 15 17)] [0, 15])
 (.cond 15 (.seq (K [(q 2 (.mov (ci 1))),(q 3 (.mov (.c (.int .u8 128)))),(q 4 (.mov (.c (.int .u8 191))))] [2, 3, 4])
 .ret) (.seq (K [(J 19 0),(q 20 (.bin .eql 19 (.c (.int .u8 224)))),(J 18 20)] [0, 18])
 (.cond 18 (.seq (K [(q 2 (.mov (ci 2))),(q 3 (.mov (.c (.int .u8 160)))),(q 4 (.mov (.c (.int .u8 191))))] [2, 3, 4])
 .ret) (.seq (K [(J 22 0),(q 23 (.bin .eql 22 (.c (.int .u8 237)))),(J 21 23)] [0, 21])
 (.cond 21 (.seq (K [(q 2 (.mov (ci 2))),(q 3 (.mov (.c (.int .u8 128)))),(q 4 (.mov (.c (.int .u8 159))))] [2, 3, 4])
 .ret) (.seq (K [(J 25 0),(q 26 (.bin .lss 25 (.c (.int .u8 240)))),(J 24 26)] [0, 24])
 (.cond 24 (.seq (K [(q 2 (.mov (ci 2))),(q 3 (.mov (.c (.int .u8 128)))),(q 4 (.mov (.c (.int .u8 191))))] [2, 3, 4])
 .ret) (.seq (K [(J 28 0),(q 29 (.bin .eql 28 (.c (.int .u8 240)))),(J 27 29)] [0, 27])
 (.cond 27 (.seq (K [(q 2 (.mov (ci 3))),(q 3 (.mov (.c (.int .u8 144)))),(q 4 (.mov (.c (.int .u8 191))))] [2, 3, 4])
 .ret) (.seq (K [(J 31 0),(q 32 (.bin .eql 31 (.c (.int .u8 244)))),(J 30 32)] [30])
 (.cond 30 (.seq (K [(q 2 (.mov (ci 3))),(q 3 (.mov (.c (.int .u8 128)))),(q 4 (.mov (.c (.int .u8 143))))] [2, 3, 4])
 .ret) .skip)))))))))))))))))
 (.seq (K [(q 2 (.mov (ci 3))),(q 3 (.mov (.c (.int .u8 128)))),(q 4 (.mov (.c (.int .u8 191))))] [2, 3, 4])
 .ret)))
def f78 : VFn := ⟨1, 33, f78_c, [.t 2, .t 3, .t 4], true, []⟩
def f79_c : VCode :=
 (.seq (K [(q 4 (.mov (.c (.bool false))))] [0, 1])
 (.seq (K [(J 7 1),(q 8 (.bin .gtr 7 (ci 0))),(J 9 8),(Z 10 0 9),(Y 11 (.nilck 10) 9),(Y 12 (.faddr 1 11) 9),(Y 13 (.load none 12) 9),(Z 14 1 9),(Y 15 (.bin .sub 14 (ci 1)) 9),(Y 16 (.iaddr 1 13 15) 9),(Y 17 (.load none 16) 9),(Y 18 (.call (cf 85) [17]) 9),(q 19 (.pick 9 18 (.c (.bool false)))),(J 5 19)] [0, 1, 5])
 (.seq (K [(J 20 1),(J 21 0),(q 22 (.nilck 21)),(q 23 (.faddr 1 22)),(q 24 (.load none 23)),(q 25 (.len 24)),(q 26 (.bin .lss 20 25)),(J 27 26),(Z 28 0 27),(Y 29 (.nilck 28) 27),(Y 30 (.faddr 1 29) 27),(Y 31 (.load none 30) 27),(Z 32 1 27),(Y 33 (.iaddr 1 31 32) 27),(Y 34 (.load none 33) 27),(Y 35 (.call (cf 85) [34]) 27),(q 36 (.pick 27 35 (.c (.bool false)))),(J 6 36)] [5, 6])
 (.seq (K [(J 37 5),(J 38 6),(q 39 (.eqb true 37 38)),(J 4 39)] [4])
 .ret))))
def f79 : VFn := ⟨2, 40, f79_c, [.t 4], true, []⟩
def f80_c : VCode :=
 (.seq (K [(q 4 (.mov (.c (.bool false))))] [0, 1])
 (.seq (K [(J 5 0),(q 6 (.bin .geq 5 (ci 0))),(J 7 6),(Z 8 0 7),(Y 9 (.bin .lss 8 (ci 128)) 7),(q 10 (.pick 7 9 (.c (.bool false)))),(J 11 10),(Z 12 1 11),(Z 13 0 11),(Y 14 (.conv (.toInt .u8) 13) 11),(Y 15 (.call (cf 86) [12, 14]) 11),(Y 16 (.bin .geq 15 (ci 0)) 11),(q 17 (.pick 11 16 (.c (.bool false)))),(J 4 17)] [4])
 .ret))
def f80 : VFn := ⟨2, 18, f80_c, [.t 4], true, []⟩
def f81_c : VCode :=
 (.seq (K [(q 2 (.mov (ci 0)))] [0])
 (.seq (.seq (K [(J 3 0),(q 4 (.nilck 3)),(q 5 (.faddr 0 4)),(q 6 (.load none 5)),(q 7 (.len 6)),(q 8 (.bin .eql 7 (ci 0)))] [0, 8])
 (.cond 8 (.seq (K [(q 2 (.mov (ci (-1))))] [2])
 .ret) .skip))
 (.seq (K [(J 9 0),(q 10 (.nilck 9)),(q 11 (.faddr 0 10)),(q 12 (.load none 11)),(q 13 (.iaddr 1 12 (ci 0))),(q 14 (.load none 13)),(J 2 14)] [2])
 .ret)))
def f81 : VFn := ⟨1, 15, f81_c, [.t 2], true, []⟩
def f82_c : VCode :=
 (.seq (K [(q 2 (.alloc true [(.int .i64 0), (.sl 0 [] true), (.int .i64 0), (.int .i64 0), (.bool false), (.sl 0 [] true)]))] [0, 2])
 (.seq (.block 0 (.seq (K [(J 8 0),(q 9 (.call (cf 65) [8, (.c (.str ⟨#[94]⟩))])),(J 7 9)] [0, 2, 7])
 (.cond 7 (.seq (K [(q 10 (.build [(.int .i64 0), (.sl 0 [] true), (.int .i64 0), (.int .i64 0), (.bool false), (.sl 0 [] true)] [(0, 1, (ci 6))])),⟨none, .store true 6 2 10, none, []⟩] [2])
 .ret) (.seq (K [(J 12 0),(q 13 (.call (cf 65) [12, (.c (.str ⟨#[36]⟩))])),(J 11 13)] [0, 2, 11])
 (.cond 11 (.seq (K [(q 14 (.build [(.int .i64 0), (.sl 0 [] true), (.int .i64 0), (.int .i64 0), (.bool false), (.sl 0 [] true)] [(0, 1, (ci 7))])),⟨none, .store true 6 2 14, none, []⟩] [2])
 .ret) (.seq (K [(J 16 0),(q 17 (.call (cf 65) [16, (.c (.str ⟨#[92, 98]⟩))])),(J 15 17)] [0, 2, 15])
 (.cond 15 (.seq (K [(q 18 (.build [(.int .i64 0), (.sl 0 [] true), (.int .i64 0), (.int .i64 0), (.bool false), (.sl 0 [] true)] [(0, 1, (ci 8))])),⟨none, .store true 6 2 18, none, []⟩] [2])
 .ret) (.seq (K [(J 20 0),(q 21 (.call (cf 65) [20, (.c (.str ⟨#[92, 66]⟩))])),(J 19 21)] [0, 2, 19])
 (.cond 19 (.seq (K [(q 22 (.build [(.int .i64 0), (.sl 0 [] true), (.int .i64 0), (.int .i64 0), (.bool false), (.sl 0 [] true)] [(0, 1, (ci 9))])),⟨none, .store true 6 2 22, none, []⟩] [2])
 .ret) .skip)))))))))
 (.seq (K [(J 23 0),(q 24 (.call (cf 87) [23])),(q 3 (.alloc true [(.int .i64 0), (.sl 0 [] true), (.int .i64 0), (.int .i64 0), (.bool false), (.sl 0 [] true)])),⟨none, .store true 6 3 24, none, []⟩] [0, 2, 3])
 (.seq (K [(J 26 0),(q 27 (.call (cf 88) [26])),(J 25 27),(E 28 25 0),(E 29 25 1),(E 30 25 2),(J 4 28),(J 5 29),(J 6 30)] [0, 2, 3, 4, 5, 6])
 (.seq (.seq (K [(J 31 6),(q 32 (.un .not 31))] [0, 2, 3, 4, 5, 32])
 (.cond 32 (.seq (K [(q 33 (.load (some 6) 3)),⟨none, .store true 6 2 33, none, []⟩] [2])
 .ret) .skip))
 (.seq (B [(J 34 4),(J 35 5),(J 36 0),⟨(some 37), .call (cf 65) [36, (.c (.str ⟨#[63]⟩))], none, [1000000, 3]⟩,(q 38 (.load (some 6) 3)),(q 39 (.buildRow true 6 1 [(.int .i64 0), (.sl 0 [] true), (.int .i64 0), (.int .i64 0), (.bool false), (.sl 0 [] true)] [(0, 38)])),(q 40 (.build [(.int .i64 0), (.sl 0 [] true), (.int .i64 0), (.int .i64 0), (.bool false), (.sl 0 [] true)] [(0, 1, (ci 5)), (2, 1, 34), (3, 1, 35), (4, 1, 37), (5, 1, 39)])),⟨none, .store true 6 2 40, none, []⟩] [2])
 .ret))))))
def f82 : VFn := ⟨1, 41, f82_c, [.c 2 (some 6)], true, []⟩
def f83_l0 : VCode :=
 (.seq (K [(q 9 (.bin .lss 8 7))] [0, 1, 7, 8, 9])
 (.seq (.cond 9 .skip (.exit 0))
 (.seq (.block 1 (.seq (K [(J 10 8),(J 5 10)] [0, 1, 5, 7, 8])
 (.seq (K [(J 11 1),(J 12 0),(J 13 5),(q 14 (.iaddr 6 12 13)),(q 15 (.load (some 6) 14)),(q 16 (.call 11 [15]))] [0, 1, 5, 7, 8, 16])
 (.cond 16 (.seq (K [(J 17 5),(J 4 17)] [4])
 .ret) .skip))))
 (.reg false [(q 18 (.bin .add 8 (ci 1))),(J 8 18)] [0, 1, 7, 8]))))
def f83_c : VCode :=
 (.seq (K [(q 4 (.mov (ci 0)))] [0, 1])
 (.seq (.seq (K [(J 6 0),(q 7 (.len 6)),(q 8 (.mov (ci 0)))] [0, 1, 7, 8])
 (.block 0 (.loop [0, 1, 7, 8] f83_l0)))
 (.seq (K [(q 4 (.mov (ci (-1))))] [4])
 .ret)))
def f83 : VFn := ⟨2, 19, f83_c, [.t 4], true, []⟩
def f84_c : VCode :=
 (.seq (K [(q 10 (.mov (ci 0))),(q 11 (.mov (ci 0)))] [0, 1, 2, 3, 4])
 (.seq (.seq (B [(J 12 4),(J 13 0),(J 14 2),(q 15 (.iaddr 2 13 14)),(q 16 (.load (some 2) 15)),(J 17 0),(J 18 1),(q 19 (.iaddr 2 17 18)),(q 20 (.load (some 2) 19)),(q 21 (.call 12 [16, 20])),(q 22 (.bin .lss 21 (ci 0)))] [1, 2, 3, 22])
 (.cond 22 (.seq (K [(J 23 3),(q 24 (.nilck 23)),(q 25 (.load none 24)),(q 26 (.bin .add 25 (ci 1))),(q 27 (.nilck 23)),⟨none, .store false 1 27 26, none, []⟩] [1, 2])
 (.seq (K [(J 28 2),(J 29 1),(J 10 28),(J 11 29)] [10, 11])
 .ret)) .skip))
 (.seq (K [(J 30 1),(J 31 2),(J 10 30),(J 11 31)] [10, 11])
 .ret)))
def f84 : VFn := ⟨5, 32, f84_c, [.t 10, .t 11], false, [0]⟩
def f85_c : VCode :=
 (.seq (K [(q 2 (.mov (.c (.bool false))))] [0])
 (.seq (K [(J 3 0),(q 4 (.bin .geq 3 (ci 48))),(J 5 4),(Z 6 0 5),(Y 7 (.bin .leq 6 (ci 57)) 5),(q 8 (.pick 5 7 (.c (.bool false)))),(J 9 8),⟨(some 10), .mov 0, (some (9, false)), []⟩,⟨(some 11), .bin .eql 10 (ci 95), (some (9, false)), []⟩,(q 12 (.pick 9 (.c (.bool true)) 11)),(J 13 12),⟨(some 14), .mov 0, (some (13, false)), []⟩,⟨(some 15), .bin .or 14 (ci 32), (some (13, false)), []⟩,⟨(some 16), .bin .geq 15 (ci 97), (some (13, false)), []⟩,⟨(some 17), .mov 16, (some (13, false)), []⟩,(Z 18 0 17),(Y 19 (.bin .or 18 (ci 32)) 17),(Y 20 (.bin .leq 19 (ci 122)) 17),⟨(some 21), .pick 17 20 (.c (.bool false)), (some (13, false)), []⟩,⟨(some 22), .mov 21, (some (13, false)), []⟩,(Z 23 0 22),(Y 24 (.bin .lss 23 (ci 128)) 22),⟨(some 25), .pick 22 24 (.c (.bool false)), (some (13, false)), []⟩,(q 26 (.pick 13 (.c (.bool true)) 25)),(J 2 26)] [2])
 .ret))
def f85 : VFn := ⟨1, 27, f85_c, [.t 2], true, []⟩
def f86_c : VCode :=
 (.seq (K [(q 4 (.mov (ci 0)))] [0, 1])
 (.seq (K [(J 5 0),(J 6 1),(q 7 (.call (cf 89) [5, 6])),(J 4 7)] [4])
 .ret))
def f86 : VFn := ⟨2, 8, f86_c, [.t 4], true, []⟩
def f87_c : VCode :=
 (.seq (K [(q 2 (.alloc true [(.int .i64 0), (.sl 0 [] true), (.int .i64 0), (.int .i64 0), (.bool false), (.sl 0 [] true)]))] [0, 2])
 (.seq (.block 0 (.seq (.seq (K [(J 8 0),(q 9 (.call (cf 65) [8, (.c (.str ⟨#[40, 63, 58]⟩))])),(J 7 9)] [0, 2, 7])
 (.cond 7 .skip (.reg false [(J 10 0),(q 11 (.call (cf 65) [10, (.c (.str ⟨#[40]⟩))])),(J 7 11)] [0, 2, 7])))
 (.cond 7 (.seq (K [(J 12 0),(q 13 (.call (cf 81) [12])),(q 14 (.bin .neq 13 (ci 63))),(q 15 (.call (cf 45) [14]))] [0, 2])
 (.seq (K [(J 16 0),(q 17 (.nilck 16)),(q 18 (.faddr 1 17)),(q 19 (.load none 18)),(q 20 (.bin .add 19 (ci 1))),(q 21 (.nilck 16)),(q 22 (.faddr 1 21)),⟨none, .store false 1 22 20, none, []⟩] [0, 2])
 (.seq (K [(J 23 0),(q 24 (.nilck 23)),(q 25 (.faddr 1 24)),(q 26 (.load none 25)),(q 27 (.bin .leq 26 (ci 200))),(q 28 (.call (cf 45) [27]))] [0, 2])
 (.seq (K [(J 29 0),(q 30 (.call (cf 44) [29])),(q 3 (.alloc true [(.int .i64 0), (.sl 0 [] true), (.int .i64 0), (.int .i64 0), (.bool false), (.sl 0 [] true)])),⟨none, .store true 6 3 30, none, []⟩] [0, 2, 3])
 (.seq (K [(J 31 0),(q 32 (.nilck 31)),(q 33 (.faddr 1 32)),(q 34 (.load none 33)),(q 35 (.bin .sub 34 (ci 1))),(q 36 (.nilck 31)),(q 37 (.faddr 1 36)),⟨none, .store false 1 37 35, none, []⟩] [0, 2, 3])
 (.seq (K [(J 38 0),(q 39 (.call (cf 65) [38, (.c (.str ⟨#[41]⟩))])),(q 40 (.call (cf 45) [39]))] [2, 3])
 (.seq (K [(q 41 (.load (some 6) 3)),⟨none, .store true 6 2 41, none, []⟩] [2])
 .ret))))))) (.seq (K [(J 43 0),(q 44 (.call (cf 65) [43, (.c (.str ⟨#[46]⟩))])),(J 42 44)] [0, 2, 42])
 (.cond 42 (.seq (K [(q 45 (.buildRow false 1 6 [(.int .i64 0)] [(0, (ci 10)), (1, (ci 10)), (2, (ci 13)), (3, (ci 13)), (4, (ci 8232)), (5, (ci 8233))])),(q 46 (.call (cf 92) [45])),(q 47 (.call (cf 91) [46])),(q 48 (.call (cf 90) [47])),⟨none, .store true 6 2 48, none, []⟩] [2])
 .ret) (.seq (K [(J 50 0),(q 51 (.call (cf 65) [50, (.c (.str ⟨#[91]⟩))])),(J 49 51)] [0, 2, 49])
 (.cond 49 (.seq (K [(J 52 0),(q 53 (.call (cf 93) [52])),(q 54 (.call (cf 90) [53])),⟨none, .store true 6 2 54, none, []⟩] [2])
 .ret) (.seq (K [(J 56 0),(q 57 (.call (cf 65) [56, (.c (.str ⟨#[92]⟩))])),(J 55 57)] [0, 2, 55])
 (.cond 55 (.seq (K [(J 59 0),(q 60 (.call (cf 94) [59])),(J 58 60),(E 61 58 0),(E 62 58 1),(J 4 61),(J 5 62)] [2, 4])
 (.seq (K [(J 63 4),(q 64 (.call (cf 90) [63])),⟨none, .store true 6 2 64, none, []⟩] [2])
 .ret)) .skip)))))))))
 (.seq (K [(J 65 0),(q 66 (.call (cf 95) [65])),(J 6 66)] [2, 6])
 (.seq (K [(J 67 6),(q 68 (.call (cf 80) [67, (.c (.str ⟨#[94, 36, 92, 46, 42, 43, 63, 40, 41, 91, 93, 123, 125, 124]⟩))])),(q 69 (.un .not 68)),(q 70 (.call (cf 45) [69]))] [2, 6])
 (.seq (K [(J 71 6),(J 72 6),(q 73 (.buildRow false 1 2 [(.int .i64 0)] [(0, 71), (1, 72)])),(q 74 (.call (cf 92) [73])),(q 75 (.call (cf 90) [74])),⟨none, .store true 6 2 75, none, []⟩] [2])
 .ret)))))
def f87 : VFn := ⟨1, 76, f87_c, [.c 2 (some 6)], true, []⟩
def f88_c : VCode :=
 (.seq (K [(q 2 (.mov (ci 0))),(q 3 (.mov (ci 0))),(q 4 (.mov (.c (.bool false))))] [0])
 (.seq (.block 0 (.seq (K [(J 8 0),(q 9 (.call (cf 65) [8, (.c (.str ⟨#[42]⟩))])),(J 7 9)] [0, 7])
 (.cond 7 (.seq (K [(q 2 (.mov (ci 0))),(q 3 (.mov (ci (-1)))),(q 4 (.mov (.c (.bool true))))] [2, 3, 4])
 .ret) (.seq (K [(J 11 0),(q 12 (.call (cf 65) [11, (.c (.str ⟨#[43]⟩))])),(J 10 12)] [0, 10])
 (.cond 10 (.seq (K [(q 2 (.mov (ci 1))),(q 3 (.mov (ci (-1)))),(q 4 (.mov (.c (.bool true))))] [2, 3, 4])
 .ret) (.seq (K [(J 14 0),(q 15 (.call (cf 65) [14, (.c (.str ⟨#[63]⟩))])),(J 13 15)] [0, 13])
 (.cond 13 (.seq (K [(q 2 (.mov (ci 0))),(q 3 (.mov (ci 1))),(q 4 (.mov (.c (.bool true))))] [2, 3, 4])
 .ret) (.seq (K [(J 17 0),(q 18 (.call (cf 65) [17, (.c (.str ⟨#[123]⟩))])),(q 19 (.un .not 18)),(J 16 19)] [0, 16])
 (.cond 16 (.seq (K [(q 2 (.mov (ci 0))),(q 3 (.mov (ci 0))),(q 4 (.mov (.c (.bool false))))] [2, 3, 4])
 .ret) .skip)))))))))
 (.seq (K [(J 20 0),(q 21 (.call (cf 96) [20])),(J 5 21)] [0, 5])
 (.seq (K [(J 22 5),(J 6 22)] [0, 5, 6])
 (.seq (.seq (K [(J 23 0),(q 24 (.call (cf 65) [23, (.c (.str ⟨#[44]⟩))]))] [0, 5, 6, 24])
 (.cond 24 (.reg false [(J 25 0),(q 26 (.call (cf 96) [25])),(J 6 26)] [0, 5, 6]) .skip))
 (.seq (K [(J 27 5),(q 28 (.bin .geq 27 (ci 0))),(J 29 28),(Z 30 6 29),(Y 31 (.bin .lss 30 (ci 0)) 29),(Z 32 31 29),⟨(some 33), .mov 6, (some (32, false)), []⟩,⟨(some 34), .mov 5, (some (32, false)), []⟩,⟨(some 35), .bin .geq 33 34, (some (32, false)), []⟩,(Y 36 (.pick 32 (.c (.bool true)) 35) 29),(q 37 (.pick 29 36 (.c (.bool false)))),(J 38 37),(Z 39 0 38),(Y 40 (.call (cf 65) [39, (.c (.str ⟨#[125]⟩))]) 38),(q 41 (.pick 38 40 (.c (.bool false)))),(q 42 (.call (cf 45) [41]))] [5, 6])
 (.seq (K [(J 43 5),(J 44 6),(J 2 43),(J 3 44),(q 4 (.mov (.c (.bool true))))] [2, 3, 4])
 .ret)))))))
def f88 : VFn := ⟨1, 45, f88_c, [.t 2, .t 3, .t 4], true, []⟩
def f89_c : VCode :=
 (.seq (K [(q 4 (.mov (ci 0)))] [0, 1])
 (.seq (K [(J 5 0),(J 6 1),(q 7 (.call (cf 97) [5, 6])),(J 4 7)] [4])
 .ret))
def f89 : VFn := ⟨2, 8, f89_c, [.t 4], true, []⟩
def f90_c : VCode :=
 (.seq (K [(q 2 (.alloc true [(.int .i64 0), (.sl 0 [] true), (.int .i64 0), (.int .i64 0), (.bool false), (.sl 0 [] true)]))] [0, 2])
 (.seq (K [(J 3 0),(q 4 (.build [(.int .i64 0), (.sl 0 [] true), (.int .i64 0), (.int .i64 0), (.bool false), (.sl 0 [] true)] [(0, 1, (ci 2)), (1, 1, 3)])),⟨none, .store true 6 2 4, none, []⟩] [2])
 .ret))
def f90 : VFn := ⟨1, 5, f90_c, [.c 2 (some 6)], true, []⟩
def f91_l0 : VCode :=
 (.seq (K [(q 14 (.bin .lss 13 12))] [3, 4, 11, 12, 13, 14])
 (.seq (.cond 14 .skip (.exit 0))
 (.seq (.block 1 (.seq (K [(q 15 (.iaddr 2 11 13)),(q 16 (.load (some 2) 15)),(q 6 (.alloc true [(.int .i64 0), (.int .i64 0)])),⟨none, .store true 2 6 16, none, []⟩] [3, 4, 6, 11, 12, 13])
 (.seq (.seq (K [(q 17 (.faddr 0 6)),(q 18 (.load none 17)),(J 19 4),(q 20 (.bin .gtr 18 19))] [3, 4, 6, 11, 12, 13, 20])
 (.cond 20 (.reg false [(J 21 3),(J 22 4),(q 23 (.faddr 0 6)),(q 24 (.load none 23)),(q 25 (.bin .sub 24 (ci 1))),(q 26 (.build [(.int .i64 0), (.int .i64 0)] [(0, 1, 22), (1, 1, 25)])),(q 27 (.buildRow true 2 1 [(.int .i64 0), (.int .i64 0)] [(0, 26)])),(q 28 (.append 2 16 21 27)),(J 3 28)] [3, 6, 11, 12, 13]) .skip))
 (.reg false [(q 29 (.faddr 1 6)),(q 30 (.load none 29)),(q 31 (.bin .add 30 (ci 1))),(J 4 31)] [3, 4, 11, 12, 13]))))
 (.reg false [(q 32 (.bin .add 13 (ci 1))),(J 13 32)] [3, 4, 11, 12, 13]))))
def f91_c : VCode :=
 (.seq (K [(q 2 (.nilrow 2))] [0])
 (.seq (K [(q 3 (.nilrow 2))] [0, 3])
 (.seq (K [(q 4 (.mov (ci 0)))] [0, 3, 4])
 (.seq (.seq (K [(J 7 0),(q 8 (.call (cf 7) [7])),(q 9 (.build [(.int .i64 0), (.int .i64 0)] [(0, 1, (ci 1114112)), (1, 1, (ci 1114112))])),(q 10 (.buildRow true 2 1 [(.int .i64 0), (.int .i64 0)] [(0, 9)])),(q 11 (.append 2 16 8 10)),(q 12 (.len 11)),(q 13 (.mov (ci 0)))] [3, 4, 11, 12, 13])
 (.block 0 (.loop [3, 4, 11, 12, 13] f91_l0)))
 (.seq (K [(J 33 3),(J 2 33)] [2])
 .ret)))))
def f91 : VFn := ⟨1, 34, f91_c, [.t 2], true, []⟩
def f92_l0 : VCode :=
 (.seq (.seq (K [(J 5 4),(q 6 (.bin .add 5 (ci 1))),(J 7 0),(q 8 (.len 7)),(q 9 (.bin .lss 6 8))] [0, 3, 4, 9])
 (.cond 9 .skip (.exit 0)))
 (.seq (.block 1 (.reg true [(J 12 3),(J 13 0),(J 14 4),(q 15 (.iaddr 1 13 14)),(q 16 (.load none 15)),(J 17 0),(J 18 4),(q 19 (.bin .add 18 (ci 1))),(q 20 (.iaddr 1 17 19)),(q 21 (.load none 20)),(q 22 (.build [(.int .i64 0), (.int .i64 0)] [(0, 1, 16), (1, 1, 21)])),(q 23 (.buildRow true 2 1 [(.int .i64 0), (.int .i64 0)] [(0, 22)])),(q 24 (.append 2 16 12 23)),(J 3 24)] [0, 3, 4]))
 (.reg false [(J 10 4),(q 11 (.bin .add 10 (ci 2))),(J 4 11)] [0, 3, 4])))
def f92_c : VCode :=
 (.seq (K [(q 2 (.nilrow 2))] [0])
 (.seq (K [(q 3 (.nilrow 2))] [0, 3])
 (.seq (.seq (K [(q 4 (.mov (ci 0)))] [0, 3, 4])
 (.block 0 (.loop [0, 3, 4] f92_l0)))
 (.seq (K [(J 25 3),(J 2 25)] [2])
 .ret))))
def f92 : VFn := ⟨1, 26, f92_c, [.t 2], true, []⟩
def f93_l0 : VCode :=
 (.seq (.seq (K [(J 11 0),(q 12 (.call (cf 65) [11, (.c (.str ⟨#[93]⟩))])),(q 13 (.un .not 12))] [0, 3, 4, 13])
 (.cond 13 .skip (.exit 0)))
 (.block 1 (.seq (K [(J 15 0),(q 16 (.call (cf 98) [15])),(J 14 16),(E 17 14 0),(E 18 14 1),(J 5 17),(J 6 18)] [0, 3, 4, 5, 6])
 (.seq (.seq (K [(J 19 0),(q 20 (.call (cf 81) [19])),(q 21 (.bin .eql 20 (ci 45))),(J 22 21),(Z 23 0 22),(Y 24 (.nilck 23) 22),(Y 25 (.faddr 0 24) 22),(Y 26 (.load none 25) 22),(Y 27 (.len 26) 22),(Y 28 (.bin .gtr 27 (ci 1)) 22),(Z 29 28 22),(Z 30 0 29),(Y 31 (.nilck 30) 29),(Y 32 (.faddr 0 31) 29),(Y 33 (.load none 32) 29),(Y 34 (.iaddr 1 33 (ci 1)) 29),(Y 35 (.load none 34) 29),(Y 36 (.bin .eql 35 (ci 93)) 29),(Y 37 (.pick 29 36 (.c (.bool false))) 22),(Y 38 (.un .not 37) 22),(q 39 (.pick 22 38 (.c (.bool false))))] [0, 3, 4, 5, 6, 39])
 (.cond 39 (.seq (K [(J 40 0),(q 41 (.call (cf 95) [40]))] [0, 3, 4, 5, 6])
 (.seq (K [(J 43 0),(q 44 (.call (cf 98) [43])),(J 42 44),(E 45 42 0),(E 46 42 1),(J 7 45),(J 8 46)] [0, 3, 4, 5, 6, 7, 8])
 (.seq (.seq (B [(J 47 6),(q 48 (.un .not 47)),(J 49 48),(Z 50 8 49),(Y 51 (.un .not 50) 49),(q 52 (.pick 49 51 (.c (.bool false)))),(J 53 52),(Z 54 5 53),(Y 55 (.iaddr 2 54 (ci 0)) 53),(Y 56 (.faddr 0 55) 53),(Y 57 (.load none 56) 53),(Z 58 7 53),(Y 59 (.iaddr 2 58 (ci 0)) 53),(Y 60 (.faddr 0 59) 53),(Y 61 (.load none 60) 53),(Y 62 (.bin .leq 57 61) 53),(q 63 (.pick 53 62 (.c (.bool false))))] [0, 3, 4, 5, 7, 63])
 (.reg false [(q 64 (.call (cf 45) [63]))] [0, 3, 4, 5, 7]))
 (.reg true [(J 65 5),(q 66 (.iaddr 2 65 (ci 0))),(q 67 (.faddr 0 66)),(q 68 (.load none 67)),(J 69 7),(q 70 (.iaddr 2 69 (ci 0))),(q 71 (.faddr 0 70)),(q 72 (.load none 71)),(q 73 (.buildRow false 1 2 [(.int .i64 0)] [(0, 68), (1, 72)])),(q 74 (.call (cf 92) [73])),(J 5 74)] [0, 3, 4, 5])))) .skip))
 (.reg false [(J 75 4),(J 76 5),(q 77 (.append 2 16 75 76)),(J 4 77)] [0, 3, 4])))))
def f93_c : VCode :=
 (.seq (K [(q 2 (.nilrow 2))] [0])
 (.seq (K [(J 9 0),(q 10 (.call (cf 65) [9, (.c (.str ⟨#[94]⟩))])),(J 3 10)] [0, 3])
 (.seq (K [(q 4 (.nilrow 2))] [0, 3, 4])
 (.seq (.block 0 (.loop [0, 3, 4] f93_l0))
 (.seq (.seq (K [(J 78 3)] [4, 78])
 (.cond 78 (.seq (K [(J 79 4),(q 80 (.call (cf 91) [79])),(J 2 80)] [2])
 .ret) .skip))
 (.seq (K [(J 81 4),(q 82 (.call (cf 7) [81])),(J 2 82)] [2])
 .ret))))))
def f93 : VFn := ⟨1, 83, f93_c, [.t 2], true, []⟩
def f94_c : VCode :=
 (.seq (K [(q 2 (.nilrow 2)),(q 3 (.mov (.c (.bool false))))] [0])
 (.seq (K [(J 7 0),(q 8 (.call (cf 95) [7])),(J 4 8)] [0, 4])
 (.seq (K [(J 9 4),(J 5 9)] [0, 4, 5])
 (.seq (.block 0 (.seq (K [(J 14 4),(q 15 (.call (cf 80) [14, (.c (.str ⟨#[100, 119, 115, 68, 87, 83]⟩))])),(J 13 15)] [0, 4, 5, 13])
 (.cond 13 (.seq (K [(J 16 4),(q 17 (.call (cf 99) [16])),(J 2 17),(q 3 (.mov (.c (.bool true))))] [2, 3])
 .ret) (.seq (K [(J 19 4),(q 20 (.call (cf 80) [19, (.c (.str ⟨#[116, 110, 118, 102, 114]⟩))])),(J 18 20)] [0, 4, 5, 18])
 (.cond 18 (.reg false [(q 21 (.mkmap)),⟨none, .mapupd false [.int] 21 (ci 116) (ci 9), none, []⟩,⟨none, .mapupd false [.int] 21 (ci 110) (ci 10), none, []⟩,⟨none, .mapupd false [.int] 21 (ci 118) (ci 11), none, []⟩,⟨none, .mapupd false [.int] 21 (ci 102) (ci 12), none, []⟩,⟨none, .mapupd false [.int] 21 (ci 114) (ci 13), none, []⟩,(J 22 21),(J 23 4),(q 24 (.lookup false [.int] (.int .i64 0) 22 23 false)),(J 5 24)] [5]) (.seq (K [(J 26 4),(q 27 (.bin .eql 26 (ci 48))),(J 25 27)] [0, 4, 5, 25])
 (.cond 25 (.seq (K [(J 28 0),(q 29 (.call (cf 81) [28])),(q 30 (.call (cf 80) [29, (.c (.str ⟨#[48, 49, 50, 51, 52, 53, 54, 55, 56, 57]⟩))])),(q 31 (.un .not 30)),(q 32 (.call (cf 45) [31]))] [])
 (.reg false [(q 5 (.mov (ci 0)))] [5])) (.seq (K [(J 34 4),(q 35 (.bin .eql 34 (ci 99))),(J 33 35)] [0, 4, 5, 33])
 (.cond 33 (.seq (K [(J 36 0),(q 37 (.call (cf 95) [36])),(J 6 37)] [6])
 (.seq (K [(J 38 6),(q 39 (.bin .or 38 (ci 32))),(q 40 (.bin .geq 39 (ci 97))),(J 41 40),(Z 42 6 41),(Y 43 (.bin .or 42 (ci 32)) 41),(Y 44 (.bin .leq 43 (ci 122)) 41),(q 45 (.pick 41 44 (.c (.bool false)))),(J 46 45),(Z 47 6 46),(Y 48 (.bin .lss 47 (ci 128)) 46),(q 49 (.pick 46 48 (.c (.bool false)))),(q 50 (.call (cf 45) [49]))] [6])
 (.reg false [(J 51 6),(q 52 (.bin .and 51 (ci 31))),(J 5 52)] [5]))) (.seq (K [(J 54 4),(q 55 (.bin .eql 54 (ci 120))),(J 53 55)] [0, 4, 5, 53])
 (.cond 53 (.reg false [(J 56 0),(q 57 (.call (cf 100) [56, (ci 2)])),(J 5 57)] [5]) (.seq (K [(J 59 4),(q 60 (.bin .eql 59 (ci 117))),(J 58 60)] [0, 4, 5, 58])
 (.cond 58 (.reg false [(J 61 0),(q 62 (.call (cf 101) [61])),(J 5 62)] [5]) (.reg false [(J 10 4),(q 11 (.call (cf 80) [10, (.c (.str ⟨#[94, 36, 92, 46, 42, 43, 63, 40, 41, 91, 93, 123, 125, 124, 47]⟩))])),(q 12 (.call (cf 45) [11]))] [5]))))))))))))))
 (.seq (K [(J 63 5),(J 64 5),(q 65 (.buildRow false 1 2 [(.int .i64 0)] [(0, 63), (1, 64)])),(q 66 (.call (cf 92) [65])),(J 2 66),(q 3 (.mov (.c (.bool false))))] [2, 3])
 .ret)))))
def f94 : VFn := ⟨1, 67, f94_c, [.t 2, .t 3], true, []⟩
def f95_c : VCode :=
 (.seq (K [(q 2 (.mov (ci 0)))] [0])
 (.seq (K [(J 4 0),(q 5 (.nilck 4)),(q 6 (.faddr 0 5)),(q 7 (.load none 6)),(q 8 (.len 7)),(q 9 (.bin .gtr 8 (ci 0))),(q 10 (.call (cf 45) [9]))] [0])
 (.seq (K [(J 11 0),(q 12 (.nilck 11)),(q 13 (.faddr 0 12)),(q 14 (.load none 13)),(q 15 (.iaddr 1 14 (ci 0))),(q 16 (.load none 15)),(J 3 16)] [0, 3])
 (.seq (K [(J 17 0),(J 18 0),(q 19 (.nilck 18)),(q 20 (.faddr 0 19)),(q 21 (.load none 20)),(q 22 (.sl 1 21 (some (ci 1)) none none)),(q 23 (.nilck 17)),(q 24 (.faddr 0 23)),⟨none, .store false 1 24 22, none, []⟩] [3])
 (.seq (K [(J 25 3),(J 2 25)] [2])
 .ret)))))
def f95 : VFn := ⟨1, 26, f95_c, [.t 2], true, []⟩
def f96_l0 : VCode :=
 (.seq (.seq (K [(J 16 5),(q 17 (.bin .geq 16 (ci 48))),(J 18 17),(Z 19 5 18),(Y 20 (.bin .leq 19 (ci 57)) 18),(q 21 (.pick 18 20 (.c (.bool false))))] [0, 4, 5, 21])
 (.cond 21 .skip (.exit 0)))
 (.seq (.block 1 (.seq (K [(J 24 4),(q 25 (.bin .mul 24 (ci 10))),(J 26 5),(q 27 (.bin .add 25 26)),(q 28 (.bin .sub 27 (ci 48))),(J 4 28)] [0, 4])
 (.seq (K [(J 29 4),(q 30 (.bin .leq 29 (ci 1000))),(q 31 (.call (cf 45) [30]))] [0, 4])
 (.reg false [(J 32 0),(q 33 (.call (cf 95) [32]))] [0, 4]))))
 (.reg false [(J 22 0),(q 23 (.call (cf 81) [22])),(J 5 23)] [0, 4, 5])))
def f96_c : VCode :=
 (.seq (K [(q 2 (.mov (ci 0)))] [0])
 (.seq (.seq (K [(J 6 0),(q 7 (.call (cf 81) [6])),(J 3 7)] [0, 3])
 (.seq (K [(J 8 3),(q 9 (.bin .lss 8 (ci 48))),(J 10 9),⟨(some 11), .mov 3, (some (10, false)), []⟩,⟨(some 12), .bin .gtr 11 (ci 57), (some (10, false)), []⟩,(q 13 (.pick 10 (.c (.bool true)) 12))] [0, 13])
 (.cond 13 (.seq (K [(q 2 (.mov (ci (-1))))] [2])
 .ret) .skip)))
 (.seq (K [(q 4 (.mov (ci 0)))] [0, 4])
 (.seq (.seq (K [(J 14 0),(q 15 (.call (cf 81) [14])),(J 5 15)] [0, 4, 5])
 (.block 0 (.loop [0, 4, 5] f96_l0)))
 (.seq (K [(J 34 4),(J 2 34)] [2])
 .ret)))))
def f96 : VFn := ⟨1, 35, f96_c, [.t 2], true, []⟩
def f98_c : VCode :=
 (.seq (K [(q 2 (.nilrow 2)),(q 3 (.mov (.c (.bool false))))] [0])
 (.seq (.block 0 (.seq (K [(J 6 0),(q 7 (.call (cf 65) [6, (.c (.str ⟨#[92, 98]⟩))])),(J 5 7)] [0, 5])
 (.cond 5 (.seq (K [(q 8 (.buildRow false 1 2 [(.int .i64 0)] [(0, (ci 8)), (1, (ci 8))])),(q 9 (.call (cf 92) [8])),(J 2 9),(q 3 (.mov (.c (.bool false))))] [2, 3])
 .ret) (.seq (K [(J 11 0),(q 12 (.call (cf 65) [11, (.c (.str ⟨#[92, 45]⟩))])),(J 10 12)] [0, 10])
 (.cond 10 (.seq (K [(q 13 (.buildRow false 1 2 [(.int .i64 0)] [(0, (ci 45)), (1, (ci 45))])),(q 14 (.call (cf 92) [13])),(J 2 14),(q 3 (.mov (.c (.bool false))))] [2, 3])
 .ret) (.seq (K [(J 16 0),(q 17 (.call (cf 65) [16, (.c (.str ⟨#[92]⟩))])),(J 15 17)] [0, 15])
 (.cond 15 (.seq (K [(J 18 0),(q 19 (.call (cf 94) [18])),(E 20 19 0),(E 21 19 1),(J 2 20),(J 3 21)] [2, 3])
 .ret) .skip)))))))
 (.seq (K [(J 22 0),(q 23 (.call (cf 95) [22])),(J 4 23)] [4])
 (.seq (K [(J 24 4),(J 25 4),(q 26 (.buildRow false 1 2 [(.int .i64 0)] [(0, 24), (1, 25)])),(q 27 (.call (cf 92) [26])),(J 2 27),(q 3 (.mov (.c (.bool false))))] [2, 3])
 .ret))))
def f98 : VFn := ⟨1, 28, f98_c, [.t 2, .t 3], true, []⟩
def f99_c : VCode :=
 (.seq (K [(q 2 (.nilrow 2))] [0])
 (.seq (.seq (K [(J 3 0)] [0, 3])
 (.block 0 (.seq (K [(q 5 (.bin .eql 3 (ci 100))),(J 4 5)] [0, 3, 4])
 (.cond 4 (.seq (K [(q 6 (.buildRow false 1 2 [(.int .i64 0)] [(0, (ci 48)), (1, (ci 57))])),(q 7 (.call (cf 92) [6])),(J 2 7)] [2])
 .ret) (.seq (K [(q 9 (.bin .eql 3 (ci 119))),(J 8 9)] [0, 3, 8])
 (.cond 8 (.seq (K [(q 10 (.buildRow false 1 8 [(.int .i64 0)] [(0, (ci 48)), (1, (ci 57)), (2, (ci 65)), (3, (ci 90)), (4, (ci 95)), (5, (ci 95)), (6, (ci 97)), (7, (ci 122))])),(q 11 (.call (cf 92) [10])),(J 2 11)] [2])
 .ret) (.seq (K [(q 13 (.bin .eql 3 (ci 115))),(J 12 13)] [0, 12])
 (.cond 12 (.seq (K [(q 14 (.buildRow false 1 20 [(.int .i64 0)] [(0, (ci 9)), (1, (ci 13)), (2, (ci 32)), (3, (ci 32)), (4, (ci 160)), (5, (ci 160)), (6, (ci 5760)), (7, (ci 5760)), (8, (ci 8192)), (9, (ci 8202)), (10, (ci 8232)), (11, (ci 8233)), (12, (ci 8239)), (13, (ci 8239)), (14, (ci 8287)), (15, (ci 8287)), (16, (ci 12288)), (17, (ci 12288)), (18, (ci 65279)), (19, (ci 65279))])),(q 15 (.call (cf 92) [14])),(J 2 15)] [2])
 .ret) .skip))))))))
 (.seq (K [(J 16 0),(q 17 (.bin .or 16 (ci 32))),(q 18 (.call (cf 99) [17])),(q 19 (.call (cf 91) [18])),(J 2 19)] [2])
 .ret)))
def f99 : VFn := ⟨1, 20, f99_c, [.t 2], true, []⟩
def f100_l0 : VCode :=
 (.seq (K [(q 9 (.bin .lss 8 7))] [0, 5, 7, 8, 9])
 (.seq (.cond 9 .skip (.exit 0))
 (.seq (.block 1 (.seq (K [(J 10 0),(q 11 (.call (cf 95) [10])),(J 6 11)] [0, 5, 6, 7, 8])
 (.seq (K [(J 12 6),(q 13 (.call (cf 80) [12, (.c (.str ⟨#[48, 49, 50, 51, 52, 53, 54, 55, 56, 57, 97, 98, 99, 100, 101, 102, 65, 66, 67, 68, 69, 70]⟩))])),(q 14 (.call (cf 45) [13]))] [0, 5, 6, 7, 8])
 (.seq (K [(J 15 5),(q 16 (.bin .shl 15 (.c (.int .u64 4)))),(J 17 6),(q 18 (.bin .and 17 (ci 15))),(q 19 (.bin .or 16 18)),(J 5 19)] [0, 5, 6, 7, 8])
 (.seq (K [(J 20 6),(q 21 (.bin .gtr 20 (ci 57)))] [0, 5, 7, 8, 21])
 (.cond 21 (.reg false [(J 22 5),(q 23 (.bin .add 22 (ci 9))),(J 5 23)] [0, 5, 7, 8]) .skip))))))
 (.reg false [(q 24 (.bin .add 8 (ci 1))),(J 8 24)] [0, 5, 7, 8]))))
def f100_c : VCode :=
 (.seq (K [(q 4 (.mov (ci 0)))] [0, 1])
 (.seq (K [(q 5 (.mov (ci 0)))] [0, 1, 5])
 (.seq (.seq (K [(J 7 1),(q 8 (.mov (ci 0)))] [0, 5, 7, 8])
 (.block 0 (.loop [0, 5, 7, 8] f100_l0)))
 (.seq (K [(J 25 5),(J 4 25)] [4])
 .ret))))
def f100 : VFn := ⟨2, 26, f100_c, [.t 4], true, []⟩
def f101_l0 : VCode :=
 (.seq (.seq (K [(J 13 0),(q 14 (.call (cf 65) [13, (.c (.str ⟨#[125]⟩))])),(q 15 (.un .not 14))] [0, 3, 15])
 (.cond 15 .skip (.exit 0)))
 (.block 1 (.reg false [(J 16 3),(q 17 (.bin .shl 16 (.c (.int .u64 4)))),(J 18 0),(q 19 (.call (cf 100) [18, (ci 1)])),(q 20 (.bin .or 17 19)),(q 21 (.min [20, (ci 1114112)])),(J 3 21)] [0, 3])))
def f101_c : VCode :=
 (.seq (K [(q 2 (.mov (ci 0)))] [0])
 (.seq (.seq (K [(J 9 0),(q 10 (.call (cf 65) [9, (.c (.str ⟨#[123]⟩))]))] [0, 10])
 (.cond 10 (.seq (K [(J 11 0),(q 12 (.call (cf 100) [11, (ci 1)])),(J 3 12)] [0, 3])
 (.seq (.block 0 (.loop [0, 3] f101_l0))
 (.seq (K [(J 23 3),(q 24 (.call (cf 102) [(.c (.sl 0 [] true)), 23])),(J 22 24),(E 25 22 0),(E 26 22 1),(J 4 25),(J 5 26)] [3, 5])
 (.seq (K [(J 27 5),(q 28 (.bin .eql 27 (ci 0))),(q 29 (.call (cf 45) [28]))] [3])
 (.seq (K [(J 30 3),(J 2 30)] [2])
 .ret))))) .skip))
 (.seq (K [(J 31 0),(q 32 (.call (cf 100) [31, (ci 4)])),(J 6 32)] [0, 6])
 (.seq (.seq (K [(J 33 6),(q 34 (.bin .lss 33 (ci 55296))),(J 35 34),⟨(some 36), .mov 6, (some (35, false)), []⟩,⟨(some 37), .bin .gtr 36 (ci 57343), (some (35, false)), []⟩,(q 38 (.pick 35 (.c (.bool true)) 37))] [0, 6, 38])
 (.cond 38 (.seq (K [(J 39 6),(J 2 39)] [2])
 .ret) .skip))
 (.seq (K [(J 40 0),(q 41 (.call (cf 65) [40, (.c (.str ⟨#[92, 117]⟩))])),(q 42 (.call (cf 45) [41]))] [0, 6])
 (.seq (K [(J 44 6),(J 45 0),(q 46 (.call (cf 100) [45, (ci 4)])),(q 47 (.call (cf 103) [44, 46])),(J 43 47),(E 48 43 0),(E 49 43 1),(J 7 48),(J 8 49)] [7, 8])
 (.seq (K [(J 50 8),(q 51 (.bin .eql 50 (ci 0))),(q 52 (.call (cf 45) [51]))] [7])
 (.seq (K [(J 53 7),(J 2 53)] [2])
 .ret))))))))
def f101 : VFn := ⟨1, 54, f101_c, [.t 2], true, []⟩
def f102_c : VCode :=
 (.seq (K [(q 4 (.nilrow 1)),(q 5 (.mov (ci 0)))] [0, 1])
 (.seq (.seq (K [(J 7 1),(q 8 (.call (cf 104) [7])),(q 9 (.un .not 8))] [0, 1, 9])
 (.cond 9 (.seq (K [(q 4 (.nilrow 1)),(q 5 (.mov (ci 2)))] [4, 5])
 .ret) .skip))
 (.seq (K [(q 10 (.build [(.int .i64 0), (.int .i64 0), (.int .i64 0)] [(0, 1, (ci 128)), (1, 1, (ci 2048)), (2, 1, (ci 65536))])),(q 6 (.alloc true [(.int .i64 0), (.int .i64 0), (.int .i64 0)])),⟨none, .store true 3 6 10, none, []⟩] [0, 1, 6])
 (.seq (.block 0 (.seq (K [(J 12 1),(q 13 (.iaddra 3 1 6 (ci 0))),(q 14 (.load none 13)),(q 15 (.bin .lss 12 14)),(J 11 15)] [0, 1, 6, 11])
 (.cond 11 (.seq (K [(J 16 0),(J 17 1),(q 18 (.conv (.toInt .u8) 17)),(q 19 (.buildRow false 1 1 [(.int .u8 0)] [(0, 18)])),(q 20 (.call (cf 105) [16, 19])),(J 4 20),(q 5 (.mov (ci 0)))] [4, 5])
 .ret) (.seq (K [(J 22 1),(q 23 (.iaddra 3 1 6 (ci 1))),(q 24 (.load none 23)),(q 25 (.bin .lss 22 24)),(J 21 25)] [0, 1, 6, 21])
 (.cond 21 (.seq (K [(J 26 0),(J 27 1),(q 28 (.bin .shr 27 (.c (.int .u64 6)))),(q 29 (.bin .or (ci 192) 28)),(q 30 (.conv (.toInt .u8) 29)),(J 31 1),(q 32 (.call (cf 106) [31, (ci 0)])),(q 33 (.buildRow false 1 2 [(.int .u8 0)] [(0, 30), (1, 32)])),(q 34 (.call (cf 105) [26, 33])),(J 4 34),(q 5 (.mov (ci 0)))] [4, 5])
 .ret) (.seq (K [(J 36 1),(q 37 (.iaddra 3 1 6 (ci 2))),(q 38 (.load none 37)),(q 39 (.bin .lss 36 38)),(J 35 39)] [0, 1, 35])
 (.cond 35 (.seq (K [(J 40 0),(J 41 1),(q 42 (.bin .shr 41 (.c (.int .u64 12)))),(q 43 (.bin .or (ci 224) 42)),(q 44 (.conv (.toInt .u8) 43)),(J 45 1),(q 46 (.call (cf 106) [45, (ci 6)])),(J 47 1),(q 48 (.call (cf 106) [47, (ci 0)])),(q 49 (.buildRow false 1 3 [(.int .u8 0)] [(0, 44), (1, 46), (2, 48)])),(q 50 (.call (cf 105) [40, 49])),(J 4 50),(q 5 (.mov (ci 0)))] [4, 5])
 .ret) .skip)))))))
 (.seq (K [(J 51 0),(J 52 1),(q 53 (.bin .shr 52 (.c (.int .u64 18)))),(q 54 (.bin .or (ci 240) 53)),(q 55 (.conv (.toInt .u8) 54)),(J 56 1),(q 57 (.call (cf 106) [56, (ci 12)])),(J 58 1),(q 59 (.call (cf 106) [58, (ci 6)])),(J 60 1),(q 61 (.call (cf 106) [60, (ci 0)])),(q 62 (.buildRow false 1 4 [(.int .u8 0)] [(0, 55), (1, 57), (2, 59), (3, 61)])),(q 63 (.call (cf 105) [51, 62])),(J 4 63),(q 5 (.mov (ci 0)))] [4, 5])
 .ret)))))
def f102 : VFn := ⟨2, 64, f102_c, [.t 4, .t 5], true, []⟩
def f103_c : VCode :=
 (.seq (K [(q 4 (.mov (ci 0))),(q 5 (.mov (ci 0)))] [0, 1])
 (.seq (.seq (K [(J 8 0),(q 9 (.bin .lss 8 (ci 55296))),(J 10 9),⟨(some 11), .mov 0, (some (10, false)), []⟩,⟨(some 12), .bin .geq 11 (ci 56320), (some (10, false)), []⟩,(q 13 (.pick 10 (.c (.bool true)) 12)),(J 14 13),⟨(some 15), .mov 1, (some (14, false)), []⟩,⟨(some 16), .bin .lss 15 (ci 56320), (some (14, false)), []⟩,(q 17 (.pick 14 (.c (.bool true)) 16)),(J 18 17),⟨(some 19), .mov 1, (some (18, false)), []⟩,⟨(some 20), .bin .geq 19 (ci 57344), (some (18, false)), []⟩,(q 21 (.pick 18 (.c (.bool true)) 20))] [0, 1, 21])
 (.cond 21 (.seq (K [(q 4 (.mov (ci 0))),(q 5 (.mov (ci 11)))] [4, 5])
 .ret) .skip))
 (.seq (K [(J 22 0),(q 23 (.bin .sub 22 (ci 55296))),(J 24 1),(q 25 (.bin .sub 24 (ci 55296))),(q 26 (.bin .sub 25 (ci 1024))),(J 6 23),(J 7 26)] [6, 7])
 (.seq (K [(J 27 6),(q 28 (.bin .shl 27 (.c (.int .u64 10)))),(J 29 7),(q 30 (.bin .or 28 29)),(q 31 (.bin .add (ci 65536) 30)),(J 4 31),(q 5 (.mov (ci 0)))] [4, 5])
 .ret))))
def f103 : VFn := ⟨2, 32, f103_c, [.t 4, .t 5], true, []⟩
def f104_c : VCode :=
 (.seq (K [(q 2 (.mov (.c (.bool false))))] [0])
 (.seq (K [(J 3 0),(q 4 (.bin .geq 3 (ci 0))),(J 5 4),(Z 6 0 5),(Y 7 (.bin .leq 6 (ci 1114111)) 5),(q 8 (.pick 5 7 (.c (.bool false)))),(J 9 8),(Z 10 0 9),(Y 11 (.bin .lss 10 (ci 55296)) 9),(Z 12 11 9),⟨(some 13), .mov 0, (some (12, false)), []⟩,⟨(some 14), .bin .geq 13 (ci 57344), (some (12, false)), []⟩,(Y 15 (.pick 12 (.c (.bool true)) 14) 9),(q 16 (.pick 9 15 (.c (.bool false)))),(J 2 16)] [2])
 .ret))
def f104 : VFn := ⟨1, 17, f104_c, [.t 2], true, []⟩
def f105_c : VCode :=
 (.seq (K [(q 4 (.nilrow 1))] [0, 1])
 (.seq (K [(J 5 0),(q 6 (.len 5)),(J 7 1),(q 8 (.len 7)),(q 9 (.bin .add 6 8)),(q 10 (.mkslice false 1 1 [(.int .u8 0)] (ci 0) 9)),(J 11 0),(q 12 (.append 1 1 10 11)),(J 13 1),(q 14 (.append 1 1 12 13)),(J 4 14)] [4])
 .ret))
def f105 : VFn := ⟨2, 15, f105_c, [.t 4], true, []⟩
def f106_c : VCode :=
 (.seq (K [(q 4 (.mov (.c (.int .u8 0))))] [0, 1])
 (.seq (K [(J 5 0),(J 6 1),(q 7 (.bin .shr 5 6)),(q 8 (.bin .and 7 (ci 63))),(q 9 (.bin .or (ci 128) 8)),(q 10 (.conv (.toInt .u8) 9)),(J 4 10)] [4])
 .ret))
def f106 : VFn := ⟨2, 11, f106_c, [.t 4], true, []⟩
def tab : FuncId → Option VFn := fun f => match f with
 | 5 => some f5
 | 6 => some f6
 | 7 => some f7
 | 8 => some f8
 | 9 => some f9
 | 10 => some f10
 | 11 => some f11
 | 12 => some f12
 | 13 => some f13
 | 14 => some f14
 | 15 => some f15
 | 16 => some f16
 | 17 => some f17
 | 18 => some f18
 | 19 => some f19
 | 20 => some f20
 | 21 => some f21
 | 22 => some f22
 | 23 => some f23
 | 25 => some f25
 | 26 => some f26
 | 27 => some f27
 | 28 => some f28
 | 29 => some f29
 | 30 => some f30
 | 31 => some f31
 | 32 => some f32
 | 33 => some f33
 | 34 => some f34
 | 35 => some f35
 | 36 => some f36
 | 37 => some f37
 | 38 => some f38
 | 39 => some f39
 | 40 => some f40
 | 41 => some f41
 | 42 => some f42
 | 43 => some f43
 | 44 => some f44
 | 45 => some f45
 | 46 => some f46
 | 47 => some f47
 | 48 => some f48
 | 49 => some f49
 | 50 => some f50
 | 51 => some f51
 | 52 => some f52
 | 53 => some f53
 | 54 => some f54
 | 55 => some f55
 | 56 => some f56
 | 57 => some f57
 | 58 => some f58
 | 59 => some f59
 | 60 => some f60
 | 61 => some f61
 | 62 => some f62
 | 63 => some f63
 | 64 => some f64
 | 65 => some f65
 | 66 => some f66
 | 67 => some f67
 | 68 => some f68
 | 69 => some f69
 | 70 => some f70
 | 71 => some f71
 | 72 => some f72
 | 73 => some f73
 | 74 => some f74
 | 75 => some f75
 | 76 => some f76
 | 77 => some f77
 | 78 => some f78
 | 79 => some f79
 | 80 => some f80
 | 81 => some f81
 | 82 => some f82
 | 83 => some f83
 | 84 => some f84
 | 85 => some f85
 | 86 => some f86
 | 87 => some f87
 | 88 => some f88
 | 89 => some f89
 | 90 => some f90
 | 91 => some f91
 | 92 => some f92
 | 93 => some f93
 | 94 => some f94
 | 95 => some f95
 | 96 => some f96
 | 98 => some f98
 | 99 => some f99
 | 100 => some f100
 | 101 => some f101
 | 102 => some f102
 | 103 => some f103
 | 104 => some f104
 | 105 => some f105
 | 106 => some f106
 | _ => none
theorem f5_ok : lowAt Try.prog [] true [] 5 = some f5 := by kernel_rfl
theorem f6_ok : lowAt Try.prog [] true [] 6 = some f6 := by kernel_rfl
theorem f7_ok : lowAt Try.prog [] true [] 7 = some f7 := by kernel_rfl
theorem f8_ok : lowAt Try.prog [(6, (8, (0, 4)))] true [] 8 = some f8 := by kernel_rfl
theorem f9_ok : lowAt Try.prog [] true [] 9 = some f9 := by kernel_rfl
theorem f10_ok : lowAt Try.prog [] true [] 10 = some f10 := by kernel_rfl
theorem f11_ok : lowAt Try.prog [] true [] 11 = some f11 := by kernel_rfl
theorem f12_ok : lowAt Try.prog [] true [] 12 = some f12 := by kernel_rfl
theorem f13_ok : lowAt Try.prog [] true [] 13 = some f13 := by kernel_rfl
theorem f14_ok : lowAt Try.prog [(4, (8, (0, 1)))] true [] 14 = some f14 := by kernel_rfl
theorem f15_ok : lowAt Try.prog [] false [0] 15 = some f15 := by kernel_rfl
theorem f16_ok : lowAt Try.prog [] true [] 16 = some f16 := by kernel_rfl
theorem f17_ok : lowAt Try.prog [] true [] 17 = some f17 := by kernel_rfl
theorem f18_ok : lowAt Try.prog [] true [] 18 = some f18 := by kernel_rfl
theorem f19_ok : lowAt Try.prog [] true [] 19 = some f19 := by kernel_rfl
theorem f20_ok : lowAt Try.prog [] true [] 20 = some f20 := by kernel_rfl
theorem f21_ok : lowAt Try.prog [] true [] 21 = some f21 := by kernel_rfl
theorem f22_ok : lowAt Try.prog [] true [] 22 = some f22 := by kernel_rfl
theorem f23_ok : lowAt Try.prog [] true [] 23 = some f23 := by kernel_rfl
theorem f25_ok : lowAt Try.prog [] true [] 25 = some f25 := by kernel_rfl
theorem f26_ok : lowAt Try.prog [] true [] 26 = some f26 := by kernel_rfl
theorem f27_ok : lowAt Try.prog [] true [] 27 = some f27 := by kernel_rfl
theorem f28_ok : lowAt Try.prog [] true [] 28 = some f28 := by kernel_rfl
theorem f29_ok : lowAt Try.prog [] false [0] 29 = some f29 := by kernel_rfl
theorem f30_ok : lowAt Try.prog [] true [] 30 = some f30 := by kernel_rfl
theorem f31_ok : lowAt Try.prog [] true [] 31 = some f31 := by kernel_rfl
theorem f32_ok : lowAt Try.prog [] true [] 32 = some f32 := by kernel_rfl
theorem f33_ok : lowAt Try.prog [] true [] 33 = some f33 := by kernel_rfl
theorem f34_ok : lowAt Try.prog [(0, (1, (0, 0))), (1, (3, (0, 0)))] false [] 34 = some f34 := by kernel_rfl
theorem f35_ok : lowAt Try.prog [(0, (1, (0, 0))), (1, (3, (0, 0)))] false [] 35 = some f35 := by kernel_rfl
theorem f36_ok : lowAt Try.prog [] true [] 36 = some f36 := by kernel_rfl
theorem f37_ok : lowAt Try.prog [] true [] 37 = some f37 := by kernel_rfl
theorem f38_ok : lowAt Try.prog [] true [] 38 = some f38 := by kernel_rfl
theorem f39_ok : lowAt Try.prog [] true [] 39 = some f39 := by kernel_rfl
theorem f40_ok : lowAt Try.prog [] true [] 40 = some f40 := by kernel_rfl
theorem f41_ok : lowAt Try.prog [] true [] 41 = some f41 := by kernel_rfl
theorem f42_ok : lowAt Try.prog [] false [] 42 = some f42 := by kernel_rfl
theorem f43_ok : lowAt Try.prog [] true [] 43 = some f43 := by kernel_rfl
theorem f44_ok : lowAt Try.prog [] true [] 44 = some f44 := by kernel_rfl
theorem f45_ok : lowAt Try.prog [] true [] 45 = some f45 := by kernel_rfl
theorem f46_ok : lowAt Try.prog [] true [] 46 = some f46 := by kernel_rfl
theorem f47_ok : lowAt Try.prog [] false [0] 47 = some f47 := by kernel_rfl
theorem f48_ok : lowAt Try.prog [] false [0] 48 = some f48 := by kernel_rfl
theorem f49_ok : lowAt Try.prog [] false [0] 49 = some f49 := by kernel_rfl
theorem f50_ok : lowAt Try.prog [] false [0] 50 = some f50 := by kernel_rfl
theorem f51_ok : lowAt Try.prog [] false [0] 51 = some f51 := by kernel_rfl
theorem f52_ok : lowAt Try.prog [] false [0] 52 = some f52 := by kernel_rfl
theorem f53_ok : lowAt Try.prog [] false [0] 53 = some f53 := by kernel_rfl
theorem f54_ok : lowAt Try.prog [] false [0] 54 = some f54 := by kernel_rfl
theorem f55_ok : lowAt Try.prog [] true [] 55 = some f55 := by kernel_rfl
theorem f56_ok : lowAt Try.prog [] true [] 56 = some f56 := by kernel_rfl
theorem f57_ok : lowAt Try.prog [] true [] 57 = some f57 := by kernel_rfl
theorem f58_ok : lowAt Try.prog [] true [] 58 = some f58 := by kernel_rfl
theorem f59_ok : lowAt Try.prog [] true [] 59 = some f59 := by kernel_rfl
theorem f60_ok : lowAt Try.prog [] true [] 60 = some f60 := by kernel_rfl
theorem f61_ok : lowAt Try.prog [(1, (5, (0, 0)))] true [] 61 = some f61 := by kernel_rfl
theorem f62_ok : lowAt Try.prog [] true [] 62 = some f62 := by kernel_rfl
theorem f63_ok : lowAt Try.prog [] true [] 63 = some f63 := by kernel_rfl
theorem f64_ok : lowAt Try.prog [] true [] 64 = some f64 := by kernel_rfl
theorem f65_ok : lowAt Try.prog [] true [] 65 = some f65 := by kernel_rfl
theorem f66_ok : lowAt Try.prog [] true [] 66 = some f66 := by kernel_rfl
theorem f67_ok : lowAt Try.prog [] true [] 67 = some f67 := by kernel_rfl
theorem f68_ok : lowAt Try.prog [] true [] 68 = some f68 := by kernel_rfl
theorem f69_ok : lowAt Try.prog [] true [] 69 = some f69 := by kernel_rfl
theorem f70_ok : lowAt Try.prog [] false [0] 70 = some f70 := by kernel_rfl
theorem f71_ok : lowAt Try.prog [] true [] 71 = some f71 := by kernel_rfl
theorem f72_ok : lowAt Try.prog [] true [] 72 = some f72 := by kernel_rfl
theorem f73_ok : lowAt Try.prog [] false [0] 73 = some f73 := by kernel_rfl
theorem f74_ok : lowAt Try.prog [] false [0] 74 = some f74 := by kernel_rfl
theorem f75_ok : lowAt Try.prog [] true [] 75 = some f75 := by kernel_rfl
theorem f76_ok : lowAt Try.prog [] true [] 76 = some f76 := by kernel_rfl
theorem f77_ok : lowAt Try.prog [] true [] 77 = some f77 := by kernel_rfl
theorem f78_ok : lowAt Try.prog [] true [] 78 = some f78 := by kernel_rfl
theorem f79_ok : lowAt Try.prog [] true [] 79 = some f79 := by kernel_rfl
theorem f80_ok : lowAt Try.prog [] true [] 80 = some f80 := by kernel_rfl
theorem f81_ok : lowAt Try.prog [] true [] 81 = some f81 := by kernel_rfl
theorem f82_ok : lowAt Try.prog [] true [] 82 = some f82 := by kernel_rfl
theorem f83_ok : lowAt Try.prog [] true [] 83 = some f83 := by kernel_rfl
theorem f84_ok : lowAt Try.prog [] false [0] 84 = some f84 := by kernel_rfl
theorem f85_ok : lowAt Try.prog [] true [] 85 = some f85 := by kernel_rfl
theorem f86_ok : lowAt Try.prog [] true [] 86 = some f86 := by kernel_rfl
theorem f87_ok : lowAt Try.prog [] true [] 87 = some f87 := by kernel_rfl
theorem f88_ok : lowAt Try.prog [] true [] 88 = some f88 := by kernel_rfl
theorem f89_ok : lowAt Try.prog [] true [] 89 = some f89 := by kernel_rfl
theorem f90_ok : lowAt Try.prog [] true [] 90 = some f90 := by kernel_rfl
theorem f91_ok : lowAt Try.prog [] true [] 91 = some f91 := by kernel_rfl
theorem f92_ok : lowAt Try.prog [] true [] 92 = some f92 := by kernel_rfl
theorem f93_ok : lowAt Try.prog [] true [] 93 = some f93 := by kernel_rfl
theorem f94_ok : lowAt Try.prog [] true [] 94 = some f94 := by kernel_rfl
theorem f95_ok : lowAt Try.prog [] true [] 95 = some f95 := by kernel_rfl
theorem f96_ok : lowAt Try.prog [] true [] 96 = some f96 := by kernel_rfl
theorem f98_ok : lowAt Try.prog [] true [] 98 = some f98 := by kernel_rfl
theorem f99_ok : lowAt Try.prog [] true [] 99 = some f99 := by kernel_rfl
theorem f100_ok : lowAt Try.prog [] true [] 100 = some f100 := by kernel_rfl
theorem f101_ok : lowAt Try.prog [] true [] 101 = some f101 := by kernel_rfl
theorem f102_ok : lowAt Try.prog [] true [] 102 = some f102 := by kernel_rfl
theorem f103_ok : lowAt Try.prog [] true [] 103 = some f103 := by kernel_rfl
theorem f104_ok : lowAt Try.prog [] true [] 104 = some f104 := by kernel_rfl
theorem f105_ok : lowAt Try.prog [] true [] 105 = some f105 := by kernel_rfl
theorem f106_ok : lowAt Try.prog [] true [] 106 = some f106 := by kernel_rfl
theorem tab_ok : TableOk Try.prog tab := by
 intro f vf h
 unfold tab at h
 split at h
 · cases h; exact lowAt_ok f5_ok
 · cases h; exact lowAt_ok f6_ok
 · cases h; exact lowAt_ok f7_ok
 · cases h; exact lowAt_ok f8_ok
 · cases h; exact lowAt_ok f9_ok
 · cases h; exact lowAt_ok f10_ok
 · cases h; exact lowAt_ok f11_ok
 · cases h; exact lowAt_ok f12_ok
 · cases h; exact lowAt_ok f13_ok
 · cases h; exact lowAt_ok f14_ok
 · cases h; exact lowAt_ok f15_ok
 · cases h; exact lowAt_ok f16_ok
 · cases h; exact lowAt_ok f17_ok
 · cases h; exact lowAt_ok f18_ok
 · cases h; exact lowAt_ok f19_ok
 · cases h; exact lowAt_ok f20_ok
 · cases h; exact lowAt_ok f21_ok
 · cases h; exact lowAt_ok f22_ok
 · cases h; exact lowAt_ok f23_ok
 · cases h; exact lowAt_ok f25_ok
 · cases h; exact lowAt_ok f26_ok
 · cases h; exact lowAt_ok f27_ok
 · cases h; exact lowAt_ok f28_ok
 · cases h; exact lowAt_ok f29_ok
 · cases h; exact lowAt_ok f30_ok
 · cases h; exact lowAt_ok f31_ok
 · cases h; exact lowAt_ok f32_ok
 · cases h; exact lowAt_ok f33_ok
 · cases h; exact lowAt_ok f34_ok
 · cases h; exact lowAt_ok f35_ok
 · cases h; exact lowAt_ok f36_ok
 · cases h; exact lowAt_ok f37_ok
 · cases h; exact lowAt_ok f38_ok
 · cases h; exact lowAt_ok f39_ok
 · cases h; exact lowAt_ok f40_ok
 · cases h; exact lowAt_ok f41_ok
 · cases h; exact lowAt_ok f42_ok
 · cases h; exact lowAt_ok f43_ok
 · cases h; exact lowAt_ok f44_ok
 · cases h; exact lowAt_ok f45_ok
 · cases h; exact lowAt_ok f46_ok
 · cases h; exact lowAt_ok f47_ok
 · cases h; exact lowAt_ok f48_ok
 · cases h; exact lowAt_ok f49_ok
 · cases h; exact lowAt_ok f50_ok
 · cases h; exact lowAt_ok f51_ok
 · cases h; exact lowAt_ok f52_ok
 · cases h; exact lowAt_ok f53_ok
 · cases h; exact lowAt_ok f54_ok
 · cases h; exact lowAt_ok f55_ok
 · cases h; exact lowAt_ok f56_ok
 · cases h; exact lowAt_ok f57_ok
 · cases h; exact lowAt_ok f58_ok
 · cases h; exact lowAt_ok f59_ok
 · cases h; exact lowAt_ok f60_ok
 · cases h; exact lowAt_ok f61_ok
 · cases h; exact lowAt_ok f62_ok
 · cases h; exact lowAt_ok f63_ok
 · cases h; exact lowAt_ok f64_ok
 · cases h; exact lowAt_ok f65_ok
 · cases h; exact lowAt_ok f66_ok
 · cases h; exact lowAt_ok f67_ok
 · cases h; exact lowAt_ok f68_ok
 · cases h; exact lowAt_ok f69_ok
 · cases h; exact lowAt_ok f70_ok
 · cases h; exact lowAt_ok f71_ok
 · cases h; exact lowAt_ok f72_ok
 · cases h; exact lowAt_ok f73_ok
 · cases h; exact lowAt_ok f74_ok
 · cases h; exact lowAt_ok f75_ok
 · cases h; exact lowAt_ok f76_ok
 · cases h; exact lowAt_ok f77_ok
 · cases h; exact lowAt_ok f78_ok
 · cases h; exact lowAt_ok f79_ok
 · cases h; exact lowAt_ok f80_ok
 · cases h; exact lowAt_ok f81_ok
 · cases h; exact lowAt_ok f82_ok
 · cases h; exact lowAt_ok f83_ok
 · cases h; exact lowAt_ok f84_ok
 · cases h; exact lowAt_ok f85_ok
 · cases h; exact lowAt_ok f86_ok
 · cases h; exact lowAt_ok f87_ok
 · cases h; exact lowAt_ok f88_ok
 · cases h; exact lowAt_ok f89_ok
 · cases h; exact lowAt_ok f90_ok
 · cases h; exact lowAt_ok f91_ok
 · cases h; exact lowAt_ok f92_ok
 · cases h; exact lowAt_ok f93_ok
 · cases h; exact lowAt_ok f94_ok
 · cases h; exact lowAt_ok f95_ok
 · cases h; exact lowAt_ok f96_ok
 · cases h; exact lowAt_ok f98_ok
 · cases h; exact lowAt_ok f99_ok
 · cases h; exact lowAt_ok f100_ok
 · cases h; exact lowAt_ok f101_ok
 · cases h; exact lowAt_ok f102_ok
 · cases h; exact lowAt_ok f103_ok
 · cases h; exact lowAt_ok f104_ok
 · cases h; exact lowAt_ok f105_ok
 · cases h; exact lowAt_ok f106_ok
 · cases h
theorem d24_ok : lowDAt Try.prog 24 43 = some d24 := by kernel_rfl
end Go.Proofs.Ytjnfkifdgojdaaa.V
