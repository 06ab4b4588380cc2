/- What the functions do, without fuel; what comes at any rate by the kernel. -/
import Derived.Test.YtlijicnknhopkaaDoorVE
import Derived.Test.YtlijicnknhopkaaDoorVH
import Derived.Test.YtlijicnknhopkaaDoorV37
import Derived.Test.YtlijicnknhopkaaDoorV38
namespace Go.Proofs.YtlijicnknhopkaaDoor.V
open Go
set_option linter.unusedVariables false
set_option linter.unnecessarySimpa false
set_option linter.unusedSimpArgs false
set_option linter.unusedSectionVars false
section
set_option maxRecDepth 100000
def layTrim_ren : Go.Shelf.Ren := ⟨fun | 119 => 79 | 120 => 76 | 137 => 78 | 151 => 71 | 152 => 75 | 160 => 39 | 197 => 70 | 217 => 82 | 224 => 80 | 225 => 81 | 227 => 58 | 228 => 69 | 231 => 56 | 232 => 57 | 233 => 59 | 234 => 60 | 235 => 61 | 236 => 62 | 260 => 74 | 266 => 83 | 271 => 72 | n => n, fun | 0 => 0 | 3 => 3 | 4 => 4 | 5 => 5 | 9 => 9 | 21 => 21 | 46 => 62 | 105 => 88 | 116 => 76 | 117 => 77 | 119 => 95 | 124 => 80 | 138 => 97 | 139 => 98 | n => n, fun | 3 => 2 | 4 => 3 | n => n⟩
theorem layTrim : Go.Proofs.Lays.n160 Tryd.prog layTrim_ren := {
  mixed := by kernel_rfl
  f119 := Tryd.func79.trans (congrArg some (by kernel_rfl))
  f120 := Tryd.func76.trans (congrArg some (by kernel_rfl))
  f137 := Tryd.func78.trans (congrArg some (by kernel_rfl))
  f151 := Tryd.func71.trans (congrArg some (by kernel_rfl))
  f152 := Tryd.func75.trans (congrArg some (by kernel_rfl))
  f160 := Tryd.func39.trans (congrArg some (by kernel_rfl))
  f197 := Tryd.func70.trans (congrArg some (by kernel_rfl))
  f217 := Tryd.func82.trans (congrArg some (by kernel_rfl))
  f224 := Tryd.func80.trans (congrArg some (by kernel_rfl))
  f225 := Tryd.func81.trans (congrArg some (by kernel_rfl))
  f227 := Tryd.func58.trans (congrArg some (by kernel_rfl))
  f228 := Tryd.func69.trans (congrArg some (by kernel_rfl))
  f231 := Tryd.func56.trans (congrArg some (by kernel_rfl))
  f232 := Tryd.func57.trans (congrArg some (by kernel_rfl))
  f233 := Tryd.func59.trans (congrArg some (by kernel_rfl))
  f234 := Tryd.func60.trans (congrArg some (by kernel_rfl))
  f235 := Tryd.func61.trans (congrArg some (by kernel_rfl))
  f236 := Tryd.func62.trans (congrArg some (by kernel_rfl))
  f260 := Tryd.func74.trans (congrArg some (by kernel_rfl))
  f266 := Tryd.func83.trans (congrArg some (by kernel_rfl))
  f271 := Tryd.func72.trans (congrArg some (by kernel_rfl))
  t0 := Tryd.underlying0
  a0 := Tryd.isAgg0
  z0 := Tryd.sizeOf0
  v0 := Tryd.zeroValue0
  t3 := Tryd.underlying3
  a3 := Tryd.isAgg3
  z3 := Tryd.sizeOf3
  v3 := Tryd.zeroValue3
  t4 := Tryd.underlying4
  a4 := Tryd.isAgg4
  z4 := Tryd.sizeOf4
  v4 := Tryd.zeroValue4
  t5 := Tryd.underlying5
  a5 := Tryd.isAgg5
  z5 := Tryd.sizeOf5
  v5 := Tryd.zeroValue5
  t9 := Tryd.underlying9
  a9 := Tryd.isAgg9
  z9 := Tryd.sizeOf9
  v9 := Tryd.zeroValue9
  t21 := Tryd.underlying21
  a21 := Tryd.isAgg21
  z21 := Tryd.sizeOf21
  v21 := Tryd.zeroValue21
  t46 := Tryd.underlying62
  a46 := Tryd.isAgg62
  z46 := Tryd.sizeOf62
  v46 := Tryd.zeroValue62
  t105 := Tryd.underlying88
  a105 := Tryd.isAgg88
  z105 := Tryd.sizeOf88
  v105 := Tryd.zeroValue88
  t116 := Tryd.underlying76
  a116 := Tryd.isAgg76
  z116 := Tryd.sizeOf76
  t117 := Tryd.underlying77
  a117 := Tryd.isAgg77
  z117 := Tryd.sizeOf77
  v117 := Tryd.zeroValue77
  t119 := Tryd.underlying95
  a119 := Tryd.isAgg95
  z119 := Tryd.sizeOf95
  t124 := Tryd.underlying80
  a124 := Tryd.isAgg80
  z124 := Tryd.sizeOf80
  v124 := Tryd.zeroValue80
  t138 := Tryd.underlying97
  a138 := Tryd.isAgg97
  z138 := Tryd.sizeOf97
  v138 := Tryd.zeroValue97
  t139 := Tryd.underlying98
  a139 := Tryd.isAgg98
  z139 := Tryd.sizeOf98
  v139 := Tryd.zeroValue98
  g3 := by kernel_rfl
  g4 := by kernel_rfl }
def layTrimLeft_ren : Go.Shelf.Ren := ⟨fun | 119 => 79 | 137 => 78 | 151 => 71 | 152 => 75 | 161 => 42 | 197 => 70 | 217 => 82 | 224 => 80 | 225 => 81 | 227 => 58 | 228 => 69 | 231 => 56 | 233 => 59 | 235 => 61 | 260 => 74 | 266 => 83 | n => n, fun | 0 => 0 | 3 => 3 | 4 => 4 | 5 => 5 | 9 => 9 | 21 => 21 | 46 => 62 | 105 => 88 | 116 => 76 | 117 => 77 | 119 => 95 | 124 => 80 | 138 => 97 | 139 => 98 | n => n, fun | 3 => 2 | 4 => 3 | n => n⟩
theorem layTrimLeft : Go.Proofs.Lays.n161 Tryd.prog layTrimLeft_ren := {
  mixed := by kernel_rfl
  f119 := Tryd.func79.trans (congrArg some (by kernel_rfl))
  f137 := Tryd.func78.trans (congrArg some (by kernel_rfl))
  f151 := Tryd.func71.trans (congrArg some (by kernel_rfl))
  f152 := Tryd.func75.trans (congrArg some (by kernel_rfl))
  f161 := Tryd.func42.trans (congrArg some (by kernel_rfl))
  f197 := Tryd.func70.trans (congrArg some (by kernel_rfl))
  f217 := Tryd.func82.trans (congrArg some (by kernel_rfl))
  f224 := Tryd.func80.trans (congrArg some (by kernel_rfl))
  f225 := Tryd.func81.trans (congrArg some (by kernel_rfl))
  f227 := Tryd.func58.trans (congrArg some (by kernel_rfl))
  f228 := Tryd.func69.trans (congrArg some (by kernel_rfl))
  f231 := Tryd.func56.trans (congrArg some (by kernel_rfl))
  f233 := Tryd.func59.trans (congrArg some (by kernel_rfl))
  f235 := Tryd.func61.trans (congrArg some (by kernel_rfl))
  f260 := Tryd.func74.trans (congrArg some (by kernel_rfl))
  f266 := Tryd.func83.trans (congrArg some (by kernel_rfl))
  t0 := Tryd.underlying0
  a0 := Tryd.isAgg0
  z0 := Tryd.sizeOf0
  v0 := Tryd.zeroValue0
  t3 := Tryd.underlying3
  a3 := Tryd.isAgg3
  z3 := Tryd.sizeOf3
  v3 := Tryd.zeroValue3
  t4 := Tryd.underlying4
  a4 := Tryd.isAgg4
  z4 := Tryd.sizeOf4
  v4 := Tryd.zeroValue4
  t5 := Tryd.underlying5
  a5 := Tryd.isAgg5
  z5 := Tryd.sizeOf5
  v5 := Tryd.zeroValue5
  t9 := Tryd.underlying9
  a9 := Tryd.isAgg9
  z9 := Tryd.sizeOf9
  v9 := Tryd.zeroValue9
  t21 := Tryd.underlying21
  a21 := Tryd.isAgg21
  z21 := Tryd.sizeOf21
  v21 := Tryd.zeroValue21
  t46 := Tryd.underlying62
  a46 := Tryd.isAgg62
  z46 := Tryd.sizeOf62
  v46 := Tryd.zeroValue62
  t105 := Tryd.underlying88
  a105 := Tryd.isAgg88
  z105 := Tryd.sizeOf88
  v105 := Tryd.zeroValue88
  t116 := Tryd.underlying76
  a116 := Tryd.isAgg76
  z116 := Tryd.sizeOf76
  t117 := Tryd.underlying77
  a117 := Tryd.isAgg77
  z117 := Tryd.sizeOf77
  v117 := Tryd.zeroValue77
  t119 := Tryd.underlying95
  a119 := Tryd.isAgg95
  z119 := Tryd.sizeOf95
  t124 := Tryd.underlying80
  a124 := Tryd.isAgg80
  z124 := Tryd.sizeOf80
  v124 := Tryd.zeroValue80
  t138 := Tryd.underlying97
  a138 := Tryd.isAgg97
  z138 := Tryd.sizeOf97
  v138 := Tryd.zeroValue97
  t139 := Tryd.underlying98
  a139 := Tryd.isAgg98
  z139 := Tryd.sizeOf98
  v139 := Tryd.zeroValue98
  g3 := by kernel_rfl
  g4 := by kernel_rfl }
end
theorem mixed : Tryd.prog.follows .mixedOrders = true := by kernel_rfl
def clRen : Go.Shelf.Ren := ⟨fun | 41 => 48 | n => n, fun | 4 => 4 | 22 => 22 | 23 => 54 | n => n, fun | n => n⟩
theorem clLay : Go.Proofs.SlLaysE0.n41 Tryd.prog clRen := {
  mixed := by kernel_rfl
  f41 := ⟨Tryd.f48.name, by decide, Tryd.func48.trans (congrArg some (by kernel_rfl))⟩
  t4 := Tryd.underlying4
  a4 := Tryd.isAgg4
  z4 := Tryd.sizeOf4
  v4 := Tryd.zeroValue4
  t22 := Tryd.underlying22
  a22 := Tryd.isAgg22
  z22 := Tryd.sizeOf22
  v22 := Tryd.zeroValue22 }
/-- What is known of functions besides their own text. -/
def XX : Calling := fun f args sto => match f with
  | 10 => (match args, sto with
    | [], [] => some (.ret (.d (.bool true)), [])
    | _, _ => none)
  | 48 => xClone 1 args sto
  | 39 => xTrim args sto
  | 42 => xTrimLeft args sto
  | f => XB f args sto
theorem XX_sound : Sound Tryd.prog XX := by
  intro f args sto out sto' h w F β us hS hus
  unfold XX at h
  split at h
  · split at h
    · cases h
      exact callF_sound mixed tab_ok XB_sound 60 10 [] [] _ _ heads_run w F β us hS hus
    · cases h
  · exact xClone_sound (z := .int .u32 0) (size := 1) (bytes := 4) flag_off clLay (by kernel_rfl) rfl (by decide) (fun w => Tryd.sizeOf54 w) (fn := Tryd.f48) Tryd.func48 (by kernel_rfl) (by kernel_rfl) h hS hus
  · exact xTrim_sound flag_off layTrim (by kernel_rfl) (fn := Tryd.f39) Tryd.func39 (by kernel_rfl) (by kernel_rfl) h hS hus
  · exact xTrimLeft_sound flag_off layTrimLeft (by kernel_rfl) (fn := Tryd.f42) Tryd.func42 (by kernel_rfl) (by kernel_rfl) h hS hus
  · exact XB_sound _ _ _ _ _ h w F β us hS hus
theorem R_clone {e : Nat} {t : Bool} : lim tab XX 48 [.d (.sl e [] t)] [] = some (.ret (.d (.sl 1 [] false)), []) := lim_x rfl
theorem R_trim {s c : ByteArray} (hc : okCut c = true) (hs : s.size ≤ 9223372036854775807) : lim tab XX 39 [.d (.str s), .d (.str c)] [] = some (.ret (.d (.str ⟨(Lib.trimS s.data.toList c.data.toList).toArray⟩)), []) := lim_x (by
  show (if okCut c = true ∧ s.size ≤ 9223372036854775807 then _ else _) = _
  rw [if_pos ⟨hc, hs⟩])
theorem R_trimLeft {s c : ByteArray} (hc : okCut c = true) : lim tab XX 42 [.d (.str s), .d (.str c)] [] = some (.ret (.d (.str ⟨(Lib.trimLeftS s.data.toList c.data.toList).toArray⟩)), []) := lim_x (by
  show (if okCut c = true then _ else _) = _
  rw [if_pos hc])
noncomputable abbrev R : Calling := lim tab XX
theorem R_fn {f : FuncId} {fn : VFn} (hV : tab f = some fn) {args : List AV} {sto : List Obj} {r : Out × List Obj} (hX : XX f args sto = none) (h : ∃ n0, ∀ n, n0 ≤ n → evalFn R (byrefOf tab) n fn args sto = some r) : R f args sto = some r := lim_fn hV hX h
theorem R_sound : Sound Tryd.prog R := lim_sound mixed tab_ok XX_sound
theorem R_heads : R 10 [] [] = some (.ret (.d (.bool true)), []) := lim_x rfl
theorem R_add {x y : Int} (h0 : 0 ≤ x) (h1 : 0 ≤ y) (h : x + y < 18446744073709551616) : R 64 [.d (.int .u64 x), .d (.int .u64 y), .d (.int .u64 0)] [] = some (.ret (.tup [.d (.int .u64 (x + y)), .d (.int .u64 0)]), []) := by
  refine lim_x ?_
  show (if 0 ≤ x ∧ 0 ≤ y ∧ (0 : Int) = 0 ∧ x + y < 18446744073709551616 then some (Out.ret (.tup [.d (.int .u64 (x + y)), .d (.int .u64 0)]), []) else none) = _
  rw [if_pos ⟨h0, h1, rfl, h⟩]
theorem tab_2 : tab 2 = some f2 := rfl
theorem tab_3 : tab 3 = some f3 := rfl
theorem tab_4 : tab 4 = some f4 := rfl
theorem tab_5 : tab 5 = some f5 := rfl
theorem tab_6 : tab 6 = some f6 := rfl
theorem tab_7 : tab 7 = some f7 := rfl
theorem tab_8 : tab 8 = some f8 := rfl
theorem tab_9 : tab 9 = some f9 := rfl
theorem tab_10 : tab 10 = some f10 := rfl
theorem tab_11 : tab 11 = some f11 := rfl
theorem tab_12 : tab 12 = some f12 := rfl
theorem tab_13 : tab 13 = some f13 := rfl
theorem tab_14 : tab 14 = some f14 := rfl
theorem tab_15 : tab 15 = some f15 := rfl
theorem tab_16 : tab 16 = some f16 := rfl
theorem tab_17 : tab 17 = some f17 := rfl
theorem tab_18 : tab 18 = some f18 := rfl
theorem tab_19 : tab 19 = some f19 := rfl
theorem tab_20 : tab 20 = some f20 := rfl
theorem tab_21 : tab 21 = some f21 := rfl
theorem tab_22 : tab 22 = some f22 := rfl
theorem tab_23 : tab 23 = some f23 := rfl
theorem tab_24 : tab 24 = some f24 := rfl
theorem tab_25 : tab 25 = some f25 := rfl
theorem tab_26 : tab 26 = some f26 := rfl
theorem tab_27 : tab 27 = some f27 := rfl
theorem tab_28 : tab 28 = some f28 := rfl
theorem tab_29 : tab 29 = some f29 := rfl
theorem tab_30 : tab 30 = some f30 := rfl
theorem tab_31 : tab 31 = some f31 := rfl
theorem tab_32 : tab 32 = some f32 := rfl
theorem tab_33 : tab 33 = some f33 := rfl
theorem tab_34 : tab 34 = some f34 := rfl
theorem tab_35 : tab 35 = some f35 := rfl
theorem tab_36 : tab 36 = some f36 := rfl
theorem tab_37 : tab 37 = some f37 := rfl
theorem tab_38 : tab 38 = some f38 := rfl
theorem tab_39 : tab 39 = some f39 := rfl
theorem tab_40 : tab 40 = some f40 := rfl
theorem tab_41 : tab 41 = some f41 := rfl
theorem tab_42 : tab 42 = some f42 := rfl
theorem tab_43 : tab 43 = some f43 := rfl
theorem tab_44 : tab 44 = some f44 := rfl
theorem tab_45 : tab 45 = some f45 := rfl
theorem tab_46 : tab 46 = some f46 := rfl
theorem tab_47 : tab 47 = some f47 := rfl
theorem tab_48 : tab 48 = some f48 := rfl
theorem tab_49 : tab 49 = some f49 := rfl
theorem tab_50 : tab 50 = some f50 := rfl
theorem tab_51 : tab 51 = some f51 := rfl
theorem tab_52 : tab 52 = some f52 := rfl
theorem tab_53 : tab 53 = some f53 := rfl
theorem tab_54 : tab 54 = some f54 := rfl
theorem tab_55 : tab 55 = some f55 := rfl
theorem tab_56 : tab 56 = some f56 := rfl
theorem tab_57 : tab 57 = some f57 := rfl
theorem tab_58 : tab 58 = some f58 := rfl
theorem tab_59 : tab 59 = some f59 := rfl
theorem tab_60 : tab 60 = some f60 := rfl
theorem tab_61 : tab 61 = some f61 := rfl
theorem tab_62 : tab 62 = some f62 := rfl
theorem tab_63 : tab 63 = some f63 := rfl
theorem tab_65 : tab 65 = some f65 := rfl
theorem tab_66 : tab 66 = some f66 := rfl
theorem tab_67 : tab 67 = some f67 := rfl
theorem tab_68 : tab 68 = some f68 := rfl
theorem tab_69 : tab 69 = some f69 := rfl
theorem tab_70 : tab 70 = some f70 := rfl
theorem tab_71 : tab 71 = some f71 := rfl
theorem tab_72 : tab 72 = some f72 := rfl
theorem tab_73 : tab 73 = some f73 := rfl
theorem tab_74 : tab 74 = some f74 := rfl
theorem tab_76 : tab 76 = some f76 := rfl
theorem tab_77 : tab 77 = some f77 := rfl
theorem tab_78 : tab 78 = some f78 := rfl
theorem tab_79 : tab 79 = some f79 := rfl
theorem tab_80 : tab 80 = some f80 := rfl
theorem tab_82 : tab 82 = some f82 := rfl
theorem tab_105 : tab 105 = some f105 := rfl
end Go.Proofs.YtlijicnknhopkaaDoor.V
