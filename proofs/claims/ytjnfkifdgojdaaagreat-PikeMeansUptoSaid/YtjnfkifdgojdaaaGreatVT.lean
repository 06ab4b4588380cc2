/- The functions of this seat, as the evaluator has them (printed by wip/v/VG.lean). -/
import Derived.Test.YtjnfkifdgojdaaaGreatChecked
import Derived.Test.YtjnfkifdgojdaaaGreatV26
import Derived.Test.YtjnfkifdgojdaaaGreatV35
namespace Go.Proofs.YtjnfkifdgojdaaaGreat.V
open Go
set_option linter.unusedVariables false
set_option linter.unusedSimpArgs false
set_option linter.unusedSectionVars false
noncomputable def lwF (h : Hints) (z : Bool) (b : List Nat) (f : FuncId) : VFn := match lowAt Tryz.prog h z b f with
  | some v => v
  | none => ⟨0, 0, .skip, [], z, b⟩
noncomputable def mf (p t : Nat) (f : FuncId) (h : Hints := []) (z : Bool := true) (b : List Nat := []) : VFn := ⟨p, t, (lwF h z b f).code, (lwF h z b f).res, z, b⟩
def lps : VCode → List VCode
  | .seq a b => lps a ++ lps b
  | .cond _ a b => lps a ++ lps b
  | .block _ c => lps c
  | .loop _ c => lps c ++ [c]
  | _ => []
noncomputable def lp (f : VFn) (k : Nat) : VCode := match (lps f.code)[k]? with
  | some c => c
  | none => .skip
noncomputable def f4 : VFn := mf 2 133 4
noncomputable def f4_l0 : VCode := lp f4 0
noncomputable def f4_l1 : VCode := lp f4 1
noncomputable def f5 : VFn := mf 2 25 5
noncomputable def f7 : VFn := mf 2 22 7 [(4, (8, (0, 1)))] true []
noncomputable def f9 : VFn := mf 2 26 9
noncomputable def f9_l0 : VCode := lp f9 0
noncomputable def f10 : VFn := mf 1 27 10
noncomputable def f11 : VFn := mf 1 29 11
noncomputable def f12 : VFn := mf 0 94 12
noncomputable def f13 : VFn := mf 1 120 13
noncomputable def f13_l0 : VCode := lp f13 0
noncomputable def f14 : VFn := mf 2 23 14
noncomputable def f15 : VFn := mf 1 22 15
noncomputable def f15_l0 : VCode := lp f15 0
noncomputable def f16 : VFn := mf 1 25 16
noncomputable def f16_l0 : VCode := lp f16 0
noncomputable def f17 : VFn := mf 2 47 17 [(6, (8, (0, 4)))] true []
noncomputable def f18 : VFn := mf 3 222 18
noncomputable def f18_l0 : VCode := lp f18 0
noncomputable def f18_l1 : VCode := lp f18 1
noncomputable def f18_l2 : VCode := lp f18 2
noncomputable def f18_l3 : VCode := lp f18 3
noncomputable def f18_l4 : VCode := lp f18 4
noncomputable def f19 : VFn := mf 2 25 19
noncomputable def f20 : VFn := mf 3 57 20
noncomputable def f20_l0 : VCode := lp f20 0
noncomputable def f21 : VFn := mf 5 15 21
noncomputable def f26 : VFn := mf 4 13 26
def d27 : VDef := ⟨[(.reg false [⟨(some 2), .alloc true [(.int .i64 0), (.sl 0 [] true), (.int .i64 0), (.int .i64 0), (.bool false), (.sl 0 [] true)], none, []⟩,
    ⟨(some 3), .alloc false [(.int .i64 0)], none, []⟩] [0, 2, 3]),
  (.reg false [⟨(some 8), .mov (.t 0), none, []⟩,
    ⟨(some 9), .conv .strToBytes (.t 8), none, []⟩,
    ⟨(some 10), .call (.c (.func (.func 36) [] [])) [(.t 9)], none, []⟩,
    ⟨(some 7), .mov (.t 10), none, []⟩,
    ⟨(some 11), .extract (.t 7) 0, none, []⟩,
    ⟨(some 12), .extract (.t 7) 1, none, []⟩,
    ⟨(some 4), .mov (.t 11), none, []⟩,
    ⟨(some 5), .mov (.t 12), none, []⟩] [0, 2, 3, 4, 5]),
  (.seq (.reg false [⟨(some 13), .mov (.t 5), none, []⟩,
    ⟨(some 14), .bin .neq (.t 13) (.c (.int .i64 0)), none, []⟩,
    ⟨(some 15), .mov (.t 14), none, []⟩,
    ⟨(some 16), .mov (.t 0), (some (15, false)), []⟩,
    ⟨(some 17), .lens (.t 16), (some (15, false)), []⟩,
    ⟨(some 18), .bin .gtr (.t 17) (.c (.int .i64 4096)), (some (15, false)), []⟩,
    ⟨(some 19), .pick (.t 15) (.c (.bool true)) (.t 18), none, []⟩] [2, 3, 4, 19])
  (.cond (.t 19) (.seq (.reg false [⟨(some 20), .build [(.int .i64 0), (.sl 0 [] true), (.int .i64 0), (.int .i64 0), (.bool false), (.sl 0 [] true)] [], none, []⟩,
    ⟨none, .store true 6 (.t 2) (.t 20), none, []⟩,
    ⟨none, .store false 1 (.t 3) (.c (.int .i64 90)), none, []⟩] [2, 3])
  .ret) .skip))],
  .mkfunc (.func 41) [] [(.t 2), (.t 3)], 21,
  (.seq (.reg false [⟨(some 22), .mov (.t 4), none, []⟩,
    ⟨(some 23), .build [(.sl 0 [] true), (.int .i64 0)] [(0, 1, (.t 22))], none, []⟩,
    ⟨(some 24), .box true 2 (.t 23), none, []⟩,
    ⟨(some 6), .mov (.t 24), none, []⟩] [2, 3, 6])
  (.seq (.reg false [⟨(some 25), .mov (.t 6), none, []⟩,
    ⟨(some 26), .call (.c (.func (.func 42) [] [])) [(.t 25)], none, []⟩,
    ⟨none, .store true 6 (.t 2) (.t 26), none, []⟩] [2, 3, 6])
  (.seq (.reg false [⟨(some 27), .mov (.t 6), none, []⟩,
    ⟨(some 28), .nilck (.t 27), none, []⟩,
    ⟨(some 29), .faddr 0 (.t 28), none, []⟩,
    ⟨(some 30), .load none (.t 29), none, []⟩,
    ⟨(some 31), .len (.t 30), none, []⟩,
    ⟨(some 32), .bin .eql (.t 31) (.c (.int .i64 0)), none, []⟩,
    ⟨(some 33), .call (.c (.func (.func 43) [] [])) [(.t 32)], none, []⟩] [2, 3])
  (.seq (.reg false [⟨(some 34), .load (some 6) (.t 2), none, []⟩,
    ⟨none, .store true 6 (.t 2) (.t 34), none, []⟩,
    ⟨none, .store false 1 (.t 3) (.c (.int .i64 0)), none, []⟩] [2, 3])
  .ret)))),
  ⟨1, 35, .skip, [.c 2 (some 6), .c 3 none], true, []⟩, 41, 5,
  (.block 0 (.seq (.reg false [⟨(some 7), .isnil .iface false (.t 5), none, []⟩] [0, 1, 5, 7])
  (.cond (.t 7) (.reg false [⟨(some 2), .mov (.t 5), none, []⟩] []) (.seq (.reg false [⟨(some 8), .assert 89 (.agg []) (.t 5) true, none, []⟩,
    ⟨(some 9), .extract (.t 8) 1, none, []⟩,
    ⟨(some 10), .extract (.t 8) 0, none, []⟩] [0, 1, 5, 9, 10])
  (.cond (.t 9) (.seq (.reg false [⟨(some 3), .alloc true [], none, []⟩,
    ⟨none, .store true 0 (.t 3) (.t 10), none, []⟩] [0, 1])
  (.reg false [⟨(some 11), .build [(.int .i64 0), (.sl 0 [] true), (.int .i64 0), (.int .i64 0), (.bool false), (.sl 0 [] true)] [], none, []⟩,
    ⟨none, .store true 6 (.t 0) (.t 11), none, []⟩,
    ⟨none, .store false 1 (.t 1) (.c (.int .i64 90)), none, []⟩] [])) (.seq (.reg false [⟨(some 4), .mov (.t 5), none, []⟩] [4])
  (.reg false [⟨(some 6), .mov (.t 4), none, []⟩,
    ⟨none, .panic (.t 6), none, []⟩] []))))))), ⟨2, 12, .skip, [], true, []⟩⟩
noncomputable def f28 : VFn := mf 1 24 28
noncomputable def f28_l0 : VCode := lp f28 0
noncomputable def f29 : VFn := mf 2 59 29
noncomputable def f29_l0 : VCode := lp f29 0
noncomputable def f30 : VFn := mf 1 6 30
noncomputable def f31 : VFn := mf 2 67 31
noncomputable def f31_l0 : VCode := lp f31 0
noncomputable def f32 : VFn := mf 2 106 32
noncomputable def f32_l0 : VCode := lp f32 0
noncomputable def f32_l1 : VCode := lp f32 1
noncomputable def f32_l2 : VCode := lp f32 2
noncomputable def f33 : VFn := mf 2 29 33
noncomputable def f33_l0 : VCode := lp f33 0
noncomputable def f34 : VFn := mf 3 30 34
noncomputable def f34_l0 : VCode := lp f34 0
noncomputable def f35 : VFn := mf 1 11 35
noncomputable def f36 : VFn := mf 1 28 36
noncomputable def f36_l0 : VCode := lp f36 0
noncomputable def f37 : VFn := mf 3 76 37
noncomputable def f37_l0 : VCode := lp f37 0
noncomputable def f38 : VFn := mf 3 55 38 [] false []
noncomputable def f38_l0 : VCode := lp f38 0
noncomputable def f38_l1 : VCode := lp f38 1
noncomputable def f41 : VFn := mf 2 12 41
noncomputable def f42 : VFn := mf 1 16 42
noncomputable def f43 : VFn := mf 1 6 43
noncomputable def f44 : VFn := mf 1 27 44
noncomputable def f45 : VFn := mf 2 24 45
noncomputable def f46 : VFn := mf 2 103 46
noncomputable def f47 : VFn := mf 2 25 47
noncomputable def f48 : VFn := mf 1 8 48
noncomputable def f49 : VFn := mf 1 8 49 [(0, (1, (0, 0))), (1, (3, (0, 0)))] false []
noncomputable def f50 : VFn := mf 1 8 50 [(0, (1, (0, 0))), (1, (3, (0, 0)))] false []
noncomputable def f51 : VFn := mf 2 78 51
noncomputable def f51_l0 : VCode := lp f51 0
noncomputable def f51_l1 : VCode := lp f51 1
noncomputable def f51_l2 : VCode := lp f51 2
noncomputable def f52 : VFn := mf 2 9 52
noncomputable def f53 : VFn := mf 2 9 53
noncomputable def f54 : VFn := mf 2 52 54 [(1, (5, (0, 0)))] true []
noncomputable def f55 : VFn := mf 1 43 55
noncomputable def f55_l0 : VCode := lp f55 0
noncomputable def f56 : VFn := mf 3 34 56
noncomputable def f60 : VFn := mf 1 23 60
noncomputable def f61 : VFn := mf 2 44 61
noncomputable def f62 : VFn := mf 2 18 62
noncomputable def f63 : VFn := mf 1 7 63
noncomputable def f64 : VFn := mf 2 9 64
noncomputable def f65 : VFn := mf 2 9 65
noncomputable def f66 : VFn := mf 2 14 66
noncomputable def f67 : VFn := mf 3 20 67
noncomputable def f68 : VFn := mf 2 19 68
noncomputable def f68_l0 : VCode := lp f68 0
noncomputable def f69 : VFn := mf 3 24 69
noncomputable def f70 : VFn := mf 2 26 70
noncomputable def f70_l0 : VCode := lp f70 0
noncomputable def f71 : VFn := mf 1 78 71
noncomputable def f71_l0 : VCode := lp f71 0
noncomputable def f71_l1 : VCode := lp f71 1
noncomputable def f72 : VFn := mf 1 33 72
noncomputable def f73 : VFn := mf 2 40 73
noncomputable def f74 : VFn := mf 2 18 74
noncomputable def f75 : VFn := mf 1 15 75
noncomputable def f76 : VFn := mf 1 41 76
noncomputable def f77 : VFn := mf 2 19 77
noncomputable def f77_l0 : VCode := lp f77 0
noncomputable def f78 : VFn := mf 2 14 78 [] false [0]
noncomputable def f79 : VFn := mf 2 10 79
noncomputable def f80 : VFn := mf 2 20 80
noncomputable def f81 : VFn := mf 2 8 81
noncomputable def f82 : VFn := mf 1 76 82
noncomputable def f83 : VFn := mf 1 45 83
noncomputable def f84 : VFn := mf 5 148 84 [] false [0]
noncomputable def f85 : VFn := mf 1 8 85
noncomputable def f86 : VFn := mf 1 6 86
noncomputable def f87 : VFn := mf 2 8 87
noncomputable def f88 : VFn := mf 1 5 88
noncomputable def f89 : VFn := mf 1 34 89
noncomputable def f90 : VFn := mf 1 26 90
noncomputable def f91 : VFn := mf 1 83 91
noncomputable def f92 : VFn := mf 1 67 92
noncomputable def f93 : VFn := mf 1 26 93
noncomputable def f94 : VFn := mf 1 35 94
noncomputable def f95 : VFn := mf 4 53 95 [] false [0]
noncomputable def f96 : VFn := mf 4 60 96 [] false [0]
noncomputable def f97 : VFn := mf 4 67 97 [] false [0]
noncomputable def f98 : VFn := mf 4 63 98 [] false [0]
noncomputable def f99 : VFn := mf 4 34 99 [] false [0]
noncomputable def f100 : VFn := mf 4 141 100 [] false [0]
noncomputable def f101 : VFn := mf 5 90 101 [] false [0]
noncomputable def f102 : VFn := mf 5 178 102 [] false [0]
noncomputable def f103 : VFn := mf 1 19 103
noncomputable def f104 : VFn := mf 1 25 104
noncomputable def f106 : VFn := mf 1 28 106
noncomputable def f107 : VFn := mf 1 20 107
noncomputable def f108 : VFn := mf 2 26 108
noncomputable def f109 : VFn := mf 1 54 109
noncomputable def f110 : VFn := mf 5 82 110 [] false [0]
noncomputable def f111 : VFn := mf 1 7 111
noncomputable def f112 : VFn := mf 1 33 112
noncomputable def f113 : VFn := mf 4 18 113 [] false [0]
noncomputable def f114 : VFn := mf 6 41 114 [] false [0]
noncomputable def f115 : VFn := mf 2 64 115
noncomputable def f116 : VFn := mf 2 32 116
noncomputable def f117 : VFn := mf 5 32 117 [] false [0]
noncomputable def f118 : VFn := mf 1 17 118
noncomputable def f119 : VFn := mf 2 15 119
noncomputable def f120 : VFn := mf 2 11 120
noncomputable def tab : FuncId → Option VFn := fun f => match f with
  | 4 => some f4
  | 5 => some f5
  | 7 => some f7
  | 9 => some f9
  | 10 => some f10
  | 11 => some f11
  | 12 => some f12
  | 13 => some f13
  | 14 => some f14
  | 15 => some f15
  | 16 => some f16
  | 17 => some f17
  | 18 => some f18
  | 19 => some f19
  | 20 => some f20
  | 21 => some f21
  | 26 => some f26
  | 28 => some f28
  | 29 => some f29
  | 30 => some f30
  | 31 => some f31
  | 32 => some f32
  | 33 => some f33
  | 34 => some f34
  | 35 => some f35
  | 36 => some f36
  | 37 => some f37
  | 38 => some f38
  | 41 => some f41
  | 42 => some f42
  | 43 => some f43
  | 44 => some f44
  | 45 => some f45
  | 46 => some f46
  | 47 => some f47
  | 48 => some f48
  | 49 => some f49
  | 50 => some f50
  | 51 => some f51
  | 52 => some f52
  | 53 => some f53
  | 54 => some f54
  | 55 => some f55
  | 56 => some f56
  | 60 => some f60
  | 61 => some f61
  | 62 => some f62
  | 63 => some f63
  | 64 => some f64
  | 65 => some f65
  | 66 => some f66
  | 67 => some f67
  | 68 => some f68
  | 69 => some f69
  | 70 => some f70
  | 71 => some f71
  | 72 => some f72
  | 73 => some f73
  | 74 => some f74
  | 75 => some f75
  | 76 => some f76
  | 77 => some f77
  | 78 => some f78
  | 79 => some f79
  | 80 => some f80
  | 81 => some f81
  | 82 => some f82
  | 83 => some f83
  | 84 => some f84
  | 85 => some f85
  | 86 => some f86
  | 87 => some f87
  | 88 => some f88
  | 89 => some f89
  | 90 => some f90
  | 91 => some f91
  | 92 => some f92
  | 93 => some f93
  | 94 => some f94
  | 95 => some f95
  | 96 => some f96
  | 97 => some f97
  | 98 => some f98
  | 99 => some f99
  | 100 => some f100
  | 101 => some f101
  | 102 => some f102
  | 103 => some f103
  | 104 => some f104
  | 106 => some f106
  | 107 => some f107
  | 108 => some f108
  | 109 => some f109
  | 110 => some f110
  | 111 => some f111
  | 112 => some f112
  | 113 => some f113
  | 114 => some f114
  | 115 => some f115
  | 116 => some f116
  | 117 => some f117
  | 118 => some f118
  | 119 => some f119
  | 120 => some f120
  | _ => none
theorem f4_ok : lowAt Tryz.prog [] true [] 4 = some f4 := by kernel_rfl
theorem f5_ok : lowAt Tryz.prog [] true [] 5 = some f5 := by kernel_rfl
theorem f7_ok : lowAt Tryz.prog [(4, (8, (0, 1)))] true [] 7 = some f7 := by kernel_rfl
theorem f9_ok : lowAt Tryz.prog [] true [] 9 = some f9 := by kernel_rfl
theorem f10_ok : lowAt Tryz.prog [] true [] 10 = some f10 := by kernel_rfl
theorem f11_ok : lowAt Tryz.prog [] true [] 11 = some f11 := by kernel_rfl
theorem f12_ok : lowAt Tryz.prog [] true [] 12 = some f12 := by kernel_rfl
theorem f13_ok : lowAt Tryz.prog [] true [] 13 = some f13 := by kernel_rfl
theorem f14_ok : lowAt Tryz.prog [] true [] 14 = some f14 := by kernel_rfl
theorem f15_ok : lowAt Tryz.prog [] true [] 15 = some f15 := by kernel_rfl
theorem f16_ok : lowAt Tryz.prog [] true [] 16 = some f16 := by kernel_rfl
theorem f17_ok : lowAt Tryz.prog [(6, (8, (0, 4)))] true [] 17 = some f17 := by kernel_rfl
theorem f18_ok : lowAt Tryz.prog [] true [] 18 = some f18 := by kernel_rfl
theorem f19_ok : lowAt Tryz.prog [] true [] 19 = some f19 := by kernel_rfl
theorem f20_ok : lowAt Tryz.prog [] true [] 20 = some f20 := by kernel_rfl
theorem f21_ok : lowAt Tryz.prog [] true [] 21 = some f21 := by kernel_rfl
theorem f26_ok : lowAt Tryz.prog [] true [] 26 = some f26 := by kernel_rfl
theorem f28_ok : lowAt Tryz.prog [] true [] 28 = some f28 := by kernel_rfl
theorem f29_ok : lowAt Tryz.prog [] true [] 29 = some f29 := by kernel_rfl
theorem f30_ok : lowAt Tryz.prog [] true [] 30 = some f30 := by kernel_rfl
theorem f31_ok : lowAt Tryz.prog [] true [] 31 = some f31 := by kernel_rfl
theorem f32_ok : lowAt Tryz.prog [] true [] 32 = some f32 := by kernel_rfl
theorem f33_ok : lowAt Tryz.prog [] true [] 33 = some f33 := by kernel_rfl
theorem f34_ok : lowAt Tryz.prog [] true [] 34 = some f34 := by kernel_rfl
theorem f35_ok : lowAt Tryz.prog [] true [] 35 = some f35 := by kernel_rfl
theorem f36_ok : lowAt Tryz.prog [] true [] 36 = some f36 := by kernel_rfl
theorem f37_ok : lowAt Tryz.prog [] true [] 37 = some f37 := by kernel_rfl
theorem f38_ok : lowAt Tryz.prog [] false [] 38 = some f38 := by kernel_rfl
theorem f41_ok : lowAt Tryz.prog [] true [] 41 = some f41 := by kernel_rfl
theorem f42_ok : lowAt Tryz.prog [] true [] 42 = some f42 := by kernel_rfl
theorem f43_ok : lowAt Tryz.prog [] true [] 43 = some f43 := by kernel_rfl
theorem f44_ok : lowAt Tryz.prog [] true [] 44 = some f44 := by kernel_rfl
theorem f45_ok : lowAt Tryz.prog [] true [] 45 = some f45 := by kernel_rfl
theorem f46_ok : lowAt Tryz.prog [] true [] 46 = some f46 := by kernel_rfl
theorem f47_ok : lowAt Tryz.prog [] true [] 47 = some f47 := by kernel_rfl
theorem f48_ok : lowAt Tryz.prog [] true [] 48 = some f48 := by kernel_rfl
theorem f49_ok : lowAt Tryz.prog [(0, (1, (0, 0))), (1, (3, (0, 0)))] false [] 49 = some f49 := by kernel_rfl
theorem f50_ok : lowAt Tryz.prog [(0, (1, (0, 0))), (1, (3, (0, 0)))] false [] 50 = some f50 := by kernel_rfl
theorem f51_ok : lowAt Tryz.prog [] true [] 51 = some f51 := by kernel_rfl
theorem f52_ok : lowAt Tryz.prog [] true [] 52 = some f52 := by kernel_rfl
theorem f53_ok : lowAt Tryz.prog [] true [] 53 = some f53 := by kernel_rfl
theorem f54_ok : lowAt Tryz.prog [(1, (5, (0, 0)))] true [] 54 = some f54 := by kernel_rfl
theorem f55_ok : lowAt Tryz.prog [] true [] 55 = some f55 := by kernel_rfl
theorem f56_ok : lowAt Tryz.prog [] true [] 56 = some f56 := by kernel_rfl
theorem f60_ok : lowAt Tryz.prog [] true [] 60 = some f60 := by kernel_rfl
theorem f61_ok : lowAt Tryz.prog [] true [] 61 = some f61 := by kernel_rfl
theorem f62_ok : lowAt Tryz.prog [] true [] 62 = some f62 := by kernel_rfl
theorem f63_ok : lowAt Tryz.prog [] true [] 63 = some f63 := by kernel_rfl
theorem f64_ok : lowAt Tryz.prog [] true [] 64 = some f64 := by kernel_rfl
theorem f65_ok : lowAt Tryz.prog [] true [] 65 = some f65 := by kernel_rfl
theorem f66_ok : lowAt Tryz.prog [] true [] 66 = some f66 := by kernel_rfl
theorem f67_ok : lowAt Tryz.prog [] true [] 67 = some f67 := by kernel_rfl
theorem f68_ok : lowAt Tryz.prog [] true [] 68 = some f68 := by kernel_rfl
theorem f69_ok : lowAt Tryz.prog [] true [] 69 = some f69 := by kernel_rfl
theorem f70_ok : lowAt Tryz.prog [] true [] 70 = some f70 := by kernel_rfl
theorem f71_ok : lowAt Tryz.prog [] true [] 71 = some f71 := by kernel_rfl
theorem f72_ok : lowAt Tryz.prog [] true [] 72 = some f72 := by kernel_rfl
theorem f73_ok : lowAt Tryz.prog [] true [] 73 = some f73 := by kernel_rfl
theorem f74_ok : lowAt Tryz.prog [] true [] 74 = some f74 := by kernel_rfl
theorem f75_ok : lowAt Tryz.prog [] true [] 75 = some f75 := by kernel_rfl
theorem f76_ok : lowAt Tryz.prog [] true [] 76 = some f76 := by kernel_rfl
theorem f77_ok : lowAt Tryz.prog [] true [] 77 = some f77 := by kernel_rfl
theorem f78_ok : lowAt Tryz.prog [] false [0] 78 = some f78 := by kernel_rfl
theorem f79_ok : lowAt Tryz.prog [] true [] 79 = some f79 := by kernel_rfl
theorem f80_ok : lowAt Tryz.prog [] true [] 80 = some f80 := by kernel_rfl
theorem f81_ok : lowAt Tryz.prog [] true [] 81 = some f81 := by kernel_rfl
theorem f82_ok : lowAt Tryz.prog [] true [] 82 = some f82 := by kernel_rfl
theorem f83_ok : lowAt Tryz.prog [] true [] 83 = some f83 := by kernel_rfl
theorem f84_ok : lowAt Tryz.prog [] false [0] 84 = some f84 := by kernel_rfl
theorem f85_ok : lowAt Tryz.prog [] true [] 85 = some f85 := by kernel_rfl
theorem f86_ok : lowAt Tryz.prog [] true [] 86 = some f86 := by kernel_rfl
theorem f87_ok : lowAt Tryz.prog [] true [] 87 = some f87 := by kernel_rfl
theorem f88_ok : lowAt Tryz.prog [] true [] 88 = some f88 := by kernel_rfl
theorem f89_ok : lowAt Tryz.prog [] true [] 89 = some f89 := by kernel_rfl
theorem f90_ok : lowAt Tryz.prog [] true [] 90 = some f90 := by kernel_rfl
theorem f91_ok : lowAt Tryz.prog [] true [] 91 = some f91 := by kernel_rfl
theorem f92_ok : lowAt Tryz.prog [] true [] 92 = some f92 := by kernel_rfl
theorem f93_ok : lowAt Tryz.prog [] true [] 93 = some f93 := by kernel_rfl
theorem f94_ok : lowAt Tryz.prog [] true [] 94 = some f94 := by kernel_rfl
theorem f95_ok : lowAt Tryz.prog [] false [0] 95 = some f95 := by kernel_rfl
theorem f96_ok : lowAt Tryz.prog [] false [0] 96 = some f96 := by kernel_rfl
theorem f97_ok : lowAt Tryz.prog [] false [0] 97 = some f97 := by kernel_rfl
theorem f98_ok : lowAt Tryz.prog [] false [0] 98 = some f98 := by kernel_rfl
theorem f99_ok : lowAt Tryz.prog [] false [0] 99 = some f99 := by kernel_rfl
theorem f100_ok : lowAt Tryz.prog [] false [0] 100 = some f100 := by kernel_rfl
theorem f101_ok : lowAt Tryz.prog [] false [0] 101 = some f101 := by kernel_rfl
theorem f102_ok : lowAt Tryz.prog [] false [0] 102 = some f102 := by kernel_rfl
theorem f103_ok : lowAt Tryz.prog [] true [] 103 = some f103 := by kernel_rfl
theorem f104_ok : lowAt Tryz.prog [] true [] 104 = some f104 := by kernel_rfl
theorem f106_ok : lowAt Tryz.prog [] true [] 106 = some f106 := by kernel_rfl
theorem f107_ok : lowAt Tryz.prog [] true [] 107 = some f107 := by kernel_rfl
theorem f108_ok : lowAt Tryz.prog [] true [] 108 = some f108 := by kernel_rfl
theorem f109_ok : lowAt Tryz.prog [] true [] 109 = some f109 := by kernel_rfl
theorem f110_ok : lowAt Tryz.prog [] false [0] 110 = some f110 := by kernel_rfl
theorem f111_ok : lowAt Tryz.prog [] true [] 111 = some f111 := by kernel_rfl
theorem f112_ok : lowAt Tryz.prog [] true [] 112 = some f112 := by kernel_rfl
theorem f113_ok : lowAt Tryz.prog [] false [0] 113 = some f113 := by kernel_rfl
theorem f114_ok : lowAt Tryz.prog [] false [0] 114 = some f114 := by kernel_rfl
theorem f115_ok : lowAt Tryz.prog [] true [] 115 = some f115 := by kernel_rfl
theorem f116_ok : lowAt Tryz.prog [] true [] 116 = some f116 := by kernel_rfl
theorem f117_ok : lowAt Tryz.prog [] false [0] 117 = some f117 := by kernel_rfl
theorem f118_ok : lowAt Tryz.prog [] true [] 118 = some f118 := by kernel_rfl
theorem f119_ok : lowAt Tryz.prog [] true [] 119 = some f119 := by kernel_rfl
theorem f120_ok : lowAt Tryz.prog [] true [] 120 = some f120 := by kernel_rfl
theorem tab_ok : TableOk Tryz.prog tab := by
  intro f vf h
  unfold tab at h
  split at h
  · cases h; exact lowAt_ok f4_ok
  · cases h; exact lowAt_ok f5_ok
  · cases h; exact lowAt_ok f7_ok
  · cases h; exact lowAt_ok f9_ok
  · cases h; exact lowAt_ok f10_ok
  · cases h; exact lowAt_ok f11_ok
  · cases h; exact lowAt_ok f12_ok
  · cases h; exact lowAt_ok f13_ok
  · cases h; exact lowAt_ok f14_ok
  · cases h; exact lowAt_ok f15_ok
  · cases h; exact lowAt_ok f16_ok
  · cases h; exact lowAt_ok f17_ok
  · cases h; exact lowAt_ok f18_ok
  · cases h; exact lowAt_ok f19_ok
  · cases h; exact lowAt_ok f20_ok
  · cases h; exact lowAt_ok f21_ok
  · cases h; exact lowAt_ok f26_ok
  · cases h; exact lowAt_ok f28_ok
  · cases h; exact lowAt_ok f29_ok
  · cases h; exact lowAt_ok f30_ok
  · cases h; exact lowAt_ok f31_ok
  · cases h; exact lowAt_ok f32_ok
  · cases h; exact lowAt_ok f33_ok
  · cases h; exact lowAt_ok f34_ok
  · cases h; exact lowAt_ok f35_ok
  · cases h; exact lowAt_ok f36_ok
  · cases h; exact lowAt_ok f37_ok
  · cases h; exact lowAt_ok f38_ok
  · cases h; exact lowAt_ok f41_ok
  · cases h; exact lowAt_ok f42_ok
  · cases h; exact lowAt_ok f43_ok
  · cases h; exact lowAt_ok f44_ok
  · cases h; exact lowAt_ok f45_ok
  · cases h; exact lowAt_ok f46_ok
  · cases h; exact lowAt_ok f47_ok
  · cases h; exact lowAt_ok f48_ok
  · cases h; exact lowAt_ok f49_ok
  · cases h; exact lowAt_ok f50_ok
  · cases h; exact lowAt_ok f51_ok
  · cases h; exact lowAt_ok f52_ok
  · cases h; exact lowAt_ok f53_ok
  · cases h; exact lowAt_ok f54_ok
  · cases h; exact lowAt_ok f55_ok
  · cases h; exact lowAt_ok f56_ok
  · cases h; exact lowAt_ok f60_ok
  · cases h; exact lowAt_ok f61_ok
  · cases h; exact lowAt_ok f62_ok
  · cases h; exact lowAt_ok f63_ok
  · cases h; exact lowAt_ok f64_ok
  · cases h; exact lowAt_ok f65_ok
  · cases h; exact lowAt_ok f66_ok
  · cases h; exact lowAt_ok f67_ok
  · cases h; exact lowAt_ok f68_ok
  · cases h; exact lowAt_ok f69_ok
  · cases h; exact lowAt_ok f70_ok
  · cases h; exact lowAt_ok f71_ok
  · cases h; exact lowAt_ok f72_ok
  · cases h; exact lowAt_ok f73_ok
  · cases h; exact lowAt_ok f74_ok
  · cases h; exact lowAt_ok f75_ok
  · cases h; exact lowAt_ok f76_ok
  · cases h; exact lowAt_ok f77_ok
  · cases h; exact lowAt_ok f78_ok
  · cases h; exact lowAt_ok f79_ok
  · cases h; exact lowAt_ok f80_ok
  · cases h; exact lowAt_ok f81_ok
  · cases h; exact lowAt_ok f82_ok
  · cases h; exact lowAt_ok f83_ok
  · cases h; exact lowAt_ok f84_ok
  · cases h; exact lowAt_ok f85_ok
  · cases h; exact lowAt_ok f86_ok
  · cases h; exact lowAt_ok f87_ok
  · cases h; exact lowAt_ok f88_ok
  · cases h; exact lowAt_ok f89_ok
  · cases h; exact lowAt_ok f90_ok
  · cases h; exact lowAt_ok f91_ok
  · cases h; exact lowAt_ok f92_ok
  · cases h; exact lowAt_ok f93_ok
  · cases h; exact lowAt_ok f94_ok
  · cases h; exact lowAt_ok f95_ok
  · cases h; exact lowAt_ok f96_ok
  · cases h; exact lowAt_ok f97_ok
  · cases h; exact lowAt_ok f98_ok
  · cases h; exact lowAt_ok f99_ok
  · cases h; exact lowAt_ok f100_ok
  · cases h; exact lowAt_ok f101_ok
  · cases h; exact lowAt_ok f102_ok
  · cases h; exact lowAt_ok f103_ok
  · cases h; exact lowAt_ok f104_ok
  · cases h; exact lowAt_ok f106_ok
  · cases h; exact lowAt_ok f107_ok
  · cases h; exact lowAt_ok f108_ok
  · cases h; exact lowAt_ok f109_ok
  · cases h; exact lowAt_ok f110_ok
  · cases h; exact lowAt_ok f111_ok
  · cases h; exact lowAt_ok f112_ok
  · cases h; exact lowAt_ok f113_ok
  · cases h; exact lowAt_ok f114_ok
  · cases h; exact lowAt_ok f115_ok
  · cases h; exact lowAt_ok f116_ok
  · cases h; exact lowAt_ok f117_ok
  · cases h; exact lowAt_ok f118_ok
  · cases h; exact lowAt_ok f119_ok
  · cases h; exact lowAt_ok f120_ok
  · cases h
theorem d27_ok : lowDAt Tryz.prog 27 41 = some d27 := by kernel_rfl
end Go.Proofs.YtjnfkifdgojdaaaGreat.V
