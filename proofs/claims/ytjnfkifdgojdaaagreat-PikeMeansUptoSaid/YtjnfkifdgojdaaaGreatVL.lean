/- slices.SortFunc of this program, laid. -/
import Derived.Shelf.SlGeneric
import Derived.Ground.SlsfProg
import Derived.Shelf.SlSortCmp.WholeK
import Derived.Test.YtjnfkifdgojdaaaGreatChecked
namespace Go.Proofs.YtjnfkifdgojdaaaGreat.V
open Go.Shelf
set_option linter.unusedVariables false
set_option linter.unusedSimpArgs false
set_option linter.unusedSectionVars false
section
set_option maxRecDepth 100000
def sortRg_ren : Go.Shelf.Ren := ⟨fun | 0 => 0 | 1 => 1 | 2 => 2 | 6 => 78 | 11 => 80 | 14 => 84 | 15 => 85 | 18 => 86 | 20 => 95 | 21 => 96 | 22 => 97 | 23 => 98 | 24 => 99 | 25 => 100 | 26 => 101 | 27 => 102 | 28 => 103 | 29 => 104 | 46 => 110 | 47 => 111 | 48 => 112 | 49 => 113 | 50 => 114 | 57 => 117 | 60 => 121 | 61 => 122 | 62 => 123 | 63 => 124 | 64 => 125 | 65 => 126 | 66 => 127 | 67 => 128 | 68 => 129 | 69 => 130 | 70 => 131 | 71 => 132 | 72 => 133 | 73 => 134 | 74 => 135 | 75 => 136 | n => n, fun | 0 => 0 | 1 => 1 | 2 => 2 | 3 => 3 | 4 => 4 | 5 => 5 | 6 => 6 | 7 => 7 | 8 => 8 | 9 => 9 | 10 => 10 | 11 => 11 | 12 => 12 | 13 => 13 | 14 => 14 | 15 => 15 | 16 => 16 | 17 => 17 | 18 => 18 | 19 => 19 | 20 => 20 | 21 => 21 | 22 => 38 | 23 => 123 | 24 => 76 | 25 => 125 | 27 => 28 | 29 => 124 | 37 => 129 | 38 => 130 | 39 => 65 | 42 => 34 | 44 => 136 | 45 => 137 | 46 => 138 | 47 => 139 | 48 => 140 | 49 => 141 | 50 => 58 | 51 => 142 | 52 => 143 | 53 => 144 | 54 => 145 | 55 => 146 | 66 => 149 | 67 => 150 | 68 => 151 | 69 => 152 | 70 => 153 | 71 => 154 | 76 => 158 | 77 => 159 | 78 => 160 | 81 => 164 | 82 => 165 | 83 => 166 | 84 => 167 | 85 => 168 | 86 => 169 | 87 => 121 | 88 => 170 | 89 => 171 | 90 => 172 | 91 => 173 | 92 => 174 | 93 => 175 | 94 => 176 | 95 => 177 | 96 => 178 | n => n, fun  | n => n⟩
theorem sortRg : Go.Proofs.SlLaysF0.n6 Tryz.prog sortRg_ren := {
 mixed := by kernel_rfl
 f6 := ⟨Tryz.f78.name, by decide, Tryz.func78.trans (congrArg some (by kernel_rfl))⟩
 f14 := ⟨Tryz.f84.name, by decide, Tryz.func84.trans (congrArg some (by kernel_rfl))⟩
 f15 := Tryz.func85.trans (congrArg some (by kernel_rfl))
 f20 := ⟨Tryz.f95.name, by decide, Tryz.func95.trans (congrArg some (by kernel_rfl))⟩
 f21 := ⟨Tryz.f96.name, by decide, Tryz.func96.trans (congrArg some (by kernel_rfl))⟩
 f22 := ⟨Tryz.f97.name, by decide, Tryz.func97.trans (congrArg some (by kernel_rfl))⟩
 f23 := ⟨Tryz.f98.name, by decide, Tryz.func98.trans (congrArg some (by kernel_rfl))⟩
 f24 := ⟨Tryz.f99.name, by decide, Tryz.func99.trans (congrArg some (by kernel_rfl))⟩
 f25 := ⟨Tryz.f100.name, by decide, Tryz.func100.trans (congrArg some (by kernel_rfl))⟩
 f26 := ⟨Tryz.f101.name, by decide, Tryz.func101.trans (congrArg some (by kernel_rfl))⟩
 f27 := ⟨Tryz.f102.name, by decide, Tryz.func102.trans (congrArg some (by kernel_rfl))⟩
 f28 := Tryz.func103.trans (congrArg some (by kernel_rfl))
 f29 := Tryz.func104.trans (congrArg some (by kernel_rfl))
 f46 := ⟨Tryz.f110.name, by decide, Tryz.func110.trans (congrArg some (by kernel_rfl))⟩
 f47 := Tryz.func111.trans (congrArg some (by kernel_rfl))
 f48 := Tryz.func112.trans (congrArg some (by kernel_rfl))
 f49 := ⟨Tryz.f113.name, by decide, Tryz.func113.trans (congrArg some (by kernel_rfl))⟩
 f50 := ⟨Tryz.f114.name, by decide, Tryz.func114.trans (congrArg some (by kernel_rfl))⟩
 f57 := ⟨Tryz.f117.name, by decide, Tryz.func117.trans (congrArg some (by kernel_rfl))⟩
 t0 := Tryz.underlying0
 a0 := Tryz.isAgg0
 z0 := Tryz.sizeOf0
 v0 := Tryz.zeroValue0
 t3 := Tryz.underlying3
 a3 := Tryz.isAgg3
 z3 := Tryz.sizeOf3
 v3 := Tryz.zeroValue3
 t4 := Tryz.underlying4
 a4 := Tryz.isAgg4
 z4 := Tryz.sizeOf4
 v4 := Tryz.zeroValue4
 t5 := Tryz.underlying5
 a5 := Tryz.isAgg5
 z5 := Tryz.sizeOf5
 v5 := Tryz.zeroValue5
 t9 := Tryz.underlying9
 a9 := Tryz.isAgg9
 z9 := Tryz.sizeOf9
 v9 := Tryz.zeroValue9
 t22 := Tryz.underlying38
 a22 := Tryz.isAgg38
 z22 := Tryz.sizeOf38
 v22 := Tryz.zeroValue38
 t25 := Tryz.underlying125
 a25 := Tryz.isAgg125
 z25 := Tryz.sizeOf125
 v25 := Tryz.zeroValue125
 t39 := Tryz.underlying65
 a39 := Tryz.isAgg65
 z39 := Tryz.sizeOf65
 v39 := Tryz.zeroValue65
 t45 := Tryz.underlying137
 a45 := Tryz.isAgg137
 z45 := Tryz.sizeOf137
 v45 := Tryz.zeroValue137
 t46 := Tryz.underlying138
 a46 := Tryz.isAgg138
 z46 := Tryz.sizeOf138
 v46 := Tryz.zeroValue138
 t50 := Tryz.underlying58
 a50 := Tryz.isAgg58
 z50 := Tryz.sizeOf58
 v50 := Tryz.zeroValue58
 t53 := Tryz.underlying144
 a53 := Tryz.isAgg144
 z53 := Tryz.sizeOf144
 v53 := Tryz.zeroValue144
 t55 := Tryz.underlying146
 a55 := Tryz.isAgg146
 z55 := Tryz.sizeOf146
 v55 := Tryz.zeroValue146
 t66 := Tryz.underlying149
 a66 := Tryz.isAgg149
 z66 := Tryz.sizeOf149
 v66 := Tryz.zeroValue149
 t70 := Tryz.underlying153
 a70 := Tryz.isAgg153
 z70 := Tryz.sizeOf153
 v70 := Tryz.zeroValue153
 t76 := Tryz.underlying158
 a76 := Tryz.isAgg158
 z76 := Tryz.sizeOf158
 v76 := Tryz.zeroValue158
 t77 := Tryz.underlying159
 a77 := Tryz.isAgg159
 z77 := Tryz.sizeOf159
 v77 := Tryz.zeroValue159 }
end
end Go.Proofs.YtjnfkifdgojdaaaGreat.V
