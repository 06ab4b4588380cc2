/- What functions without a text, and some of the kit's, answer; heads: what must come at any rate, carried out. -/
import Derived.Test.YtkkekfehjbbhoaaGreatDoorVT
import Derived.Test.YtkkekfehjbbhoaaGreatDoorV36
import Derived.Test.YtkkekfehjbbhoaaGreatDoorVG1
import Derived.Test.YtkkekfehjbbhoaaGreatDoorVG2
namespace Go.Proofs.YtkkekfehjbbhoaaGreatDoor.V
open Go
set_option linter.unusedVariables false
set_option linter.unnecessarySimpa false
set_option linter.unusedSimpArgs false
set_option linter.unusedSectionVars false
section
set_option maxRecDepth 100000
def layTrim_ren : Go.Shelf.Ren := ⟨fun | 119 => 102 | 120 => 91 | 137 => 101 | 151 => 75 | 152 => 90 | 160 => 33 | 197 => 74 | 217 => 110 | 224 => 103 | 225 => 104 | 227 => 53 | 228 => 73 | 231 => 51 | 232 => 52 | 233 => 54 | 234 => 55 | 235 => 56 | 236 => 57 | 260 => 89 | 266 => 113 | 271 => 76 | n => n, fun | 0 => 0 | 3 => 3 | 4 => 4 | 5 => 5 | 9 => 9 | 21 => 21 | 46 => 78 | 105 => 109 | 116 => 86 | 117 => 87 | 119 => 151 | 124 => 90 | 138 => 153 | 139 => 154 | n => n, fun | 3 => 3 | 4 => 4 | n => n⟩
theorem layTrim : Go.Proofs.Lays.n160 Tryz.prog layTrim_ren := {
  mixed := by kernel_rfl
  f119 := Tryz.func102.trans (congrArg some (by kernel_rfl))
  f120 := Tryz.func91.trans (congrArg some (by kernel_rfl))
  f137 := Tryz.func101.trans (congrArg some (by kernel_rfl))
  f151 := Tryz.func75.trans (congrArg some (by kernel_rfl))
  f152 := Tryz.func90.trans (congrArg some (by kernel_rfl))
  f160 := Tryz.func33.trans (congrArg some (by kernel_rfl))
  f197 := Tryz.func74.trans (congrArg some (by kernel_rfl))
  f217 := Tryz.func110.trans (congrArg some (by kernel_rfl))
  f224 := Tryz.func103.trans (congrArg some (by kernel_rfl))
  f225 := Tryz.func104.trans (congrArg some (by kernel_rfl))
  f227 := Tryz.func53.trans (congrArg some (by kernel_rfl))
  f228 := Tryz.func73.trans (congrArg some (by kernel_rfl))
  f231 := Tryz.func51.trans (congrArg some (by kernel_rfl))
  f232 := Tryz.func52.trans (congrArg some (by kernel_rfl))
  f233 := Tryz.func54.trans (congrArg some (by kernel_rfl))
  f234 := Tryz.func55.trans (congrArg some (by kernel_rfl))
  f235 := Tryz.func56.trans (congrArg some (by kernel_rfl))
  f236 := Tryz.func57.trans (congrArg some (by kernel_rfl))
  f260 := Tryz.func89.trans (congrArg some (by kernel_rfl))
  f266 := Tryz.func113.trans (congrArg some (by kernel_rfl))
  f271 := Tryz.func76.trans (congrArg some (by kernel_rfl))
  t0 := Tryz.underlying0
  a0 := Tryz.isAgg0
  z0 := Tryz.sizeOf0
  v0 := Tryz.zeroValue0
  t3 := Tryz.underlying3
  a3 := Tryz.isAgg3
  z3 := Tryz.sizeOf3
  v3 := Tryz.zeroValue3
  t4 := Tryz.underlying4
  a4 := Tryz.isAgg4
  z4 := Tryz.sizeOf4
  v4 := Tryz.zeroValue4
  t5 := Tryz.underlying5
  a5 := Tryz.isAgg5
  z5 := Tryz.sizeOf5
  v5 := Tryz.zeroValue5
  t9 := Tryz.underlying9
  a9 := Tryz.isAgg9
  z9 := Tryz.sizeOf9
  v9 := Tryz.zeroValue9
  t21 := Tryz.underlying21
  a21 := Tryz.isAgg21
  z21 := Tryz.sizeOf21
  v21 := Tryz.zeroValue21
  t46 := Tryz.underlying78
  a46 := Tryz.isAgg78
  z46 := Tryz.sizeOf78
  v46 := Tryz.zeroValue78
  t105 := Tryz.underlying109
  a105 := Tryz.isAgg109
  z105 := Tryz.sizeOf109
  v105 := Tryz.zeroValue109
  t116 := Tryz.underlying86
  a116 := Tryz.isAgg86
  z116 := Tryz.sizeOf86
  t117 := Tryz.underlying87
  a117 := Tryz.isAgg87
  z117 := Tryz.sizeOf87
  v117 := Tryz.zeroValue87
  t119 := Tryz.underlying151
  a119 := Tryz.isAgg151
  z119 := Tryz.sizeOf151
  t124 := Tryz.underlying90
  a124 := Tryz.isAgg90
  z124 := Tryz.sizeOf90
  v124 := Tryz.zeroValue90
  t138 := Tryz.underlying153
  a138 := Tryz.isAgg153
  z138 := Tryz.sizeOf153
  v138 := Tryz.zeroValue153
  t139 := Tryz.underlying154
  a139 := Tryz.isAgg154
  z139 := Tryz.sizeOf154
  v139 := Tryz.zeroValue154
  g3 := by kernel_rfl
  g4 := by kernel_rfl }
def layTrimLeft_ren : Go.Shelf.Ren := ⟨fun | 119 => 102 | 137 => 101 | 151 => 75 | 152 => 90 | 161 => 41 | 197 => 74 | 217 => 110 | 224 => 103 | 225 => 104 | 227 => 53 | 228 => 73 | 231 => 51 | 233 => 54 | 235 => 56 | 260 => 89 | 266 => 113 | n => n, fun | 0 => 0 | 3 => 3 | 4 => 4 | 5 => 5 | 9 => 9 | 21 => 21 | 46 => 78 | 105 => 109 | 116 => 86 | 117 => 87 | 119 => 151 | 124 => 90 | 138 => 153 | 139 => 154 | n => n, fun | 3 => 3 | 4 => 4 | n => n⟩
theorem layTrimLeft : Go.Proofs.Lays.n161 Tryz.prog layTrimLeft_ren := {
  mixed := by kernel_rfl
  f119 := Tryz.func102.trans (congrArg some (by kernel_rfl))
  f137 := Tryz.func101.trans (congrArg some (by kernel_rfl))
  f151 := Tryz.func75.trans (congrArg some (by kernel_rfl))
  f152 := Tryz.func90.trans (congrArg some (by kernel_rfl))
  f161 := Tryz.func41.trans (congrArg some (by kernel_rfl))
  f197 := Tryz.func74.trans (congrArg some (by kernel_rfl))
  f217 := Tryz.func110.trans (congrArg some (by kernel_rfl))
  f224 := Tryz.func103.trans (congrArg some (by kernel_rfl))
  f225 := Tryz.func104.trans (congrArg some (by kernel_rfl))
  f227 := Tryz.func53.trans (congrArg some (by kernel_rfl))
  f228 := Tryz.func73.trans (congrArg some (by kernel_rfl))
  f231 := Tryz.func51.trans (congrArg some (by kernel_rfl))
  f233 := Tryz.func54.trans (congrArg some (by kernel_rfl))
  f235 := Tryz.func56.trans (congrArg some (by kernel_rfl))
  f260 := Tryz.func89.trans (congrArg some (by kernel_rfl))
  f266 := Tryz.func113.trans (congrArg some (by kernel_rfl))
  t0 := Tryz.underlying0
  a0 := Tryz.isAgg0
  z0 := Tryz.sizeOf0
  v0 := Tryz.zeroValue0
  t3 := Tryz.underlying3
  a3 := Tryz.isAgg3
  z3 := Tryz.sizeOf3
  v3 := Tryz.zeroValue3
  t4 := Tryz.underlying4
  a4 := Tryz.isAgg4
  z4 := Tryz.sizeOf4
  v4 := Tryz.zeroValue4
  t5 := Tryz.underlying5
  a5 := Tryz.isAgg5
  z5 := Tryz.sizeOf5
  v5 := Tryz.zeroValue5
  t9 := Tryz.underlying9
  a9 := Tryz.isAgg9
  z9 := Tryz.sizeOf9
  v9 := Tryz.zeroValue9
  t21 := Tryz.underlying21
  a21 := Tryz.isAgg21
  z21 := Tryz.sizeOf21
  v21 := Tryz.zeroValue21
  t46 := Tryz.underlying78
  a46 := Tryz.isAgg78
  z46 := Tryz.sizeOf78
  v46 := Tryz.zeroValue78
  t105 := Tryz.underlying109
  a105 := Tryz.isAgg109
  z105 := Tryz.sizeOf109
  v105 := Tryz.zeroValue109
  t116 := Tryz.underlying86
  a116 := Tryz.isAgg86
  z116 := Tryz.sizeOf86
  t117 := Tryz.underlying87
  a117 := Tryz.isAgg87
  z117 := Tryz.sizeOf87
  v117 := Tryz.zeroValue87
  t119 := Tryz.underlying151
  a119 := Tryz.isAgg151
  z119 := Tryz.sizeOf151
  t124 := Tryz.underlying90
  a124 := Tryz.isAgg90
  z124 := Tryz.sizeOf90
  v124 := Tryz.zeroValue90
  t138 := Tryz.underlying153
  a138 := Tryz.isAgg153
  z138 := Tryz.sizeOf153
  v138 := Tryz.zeroValue153
  t139 := Tryz.underlying154
  a139 := Tryz.isAgg154
  z139 := Tryz.sizeOf154
  v139 := Tryz.zeroValue154
  g3 := by kernel_rfl
  g4 := by kernel_rfl }
def layTrimRight_ren : Go.Shelf.Ren := ⟨fun | 119 => 102 | 120 => 91 | 137 => 101 | 151 => 75 | 152 => 90 | 162 => 63 | 197 => 74 | 217 => 110 | 224 => 103 | 225 => 104 | 227 => 53 | 228 => 73 | 232 => 52 | 234 => 55 | 236 => 57 | 260 => 89 | 266 => 113 | 271 => 76 | n => n, fun | 0 => 0 | 3 => 3 | 4 => 4 | 5 => 5 | 9 => 9 | 21 => 21 | 46 => 78 | 105 => 109 | 116 => 86 | 117 => 87 | 119 => 151 | 124 => 90 | 138 => 153 | 139 => 154 | n => n, fun | 3 => 3 | 4 => 4 | n => n⟩
theorem layTrimRight : Go.Proofs.Lays.n162 Tryz.prog layTrimRight_ren := {
  mixed := by kernel_rfl
  f119 := Tryz.func102.trans (congrArg some (by kernel_rfl))
  f120 := Tryz.func91.trans (congrArg some (by kernel_rfl))
  f137 := Tryz.func101.trans (congrArg some (by kernel_rfl))
  f151 := Tryz.func75.trans (congrArg some (by kernel_rfl))
  f152 := Tryz.func90.trans (congrArg some (by kernel_rfl))
  f162 := Tryz.func63.trans (congrArg some (by kernel_rfl))
  f197 := Tryz.func74.trans (congrArg some (by kernel_rfl))
  f217 := Tryz.func110.trans (congrArg some (by kernel_rfl))
  f224 := Tryz.func103.trans (congrArg some (by kernel_rfl))
  f225 := Tryz.func104.trans (congrArg some (by kernel_rfl))
  f227 := Tryz.func53.trans (congrArg some (by kernel_rfl))
  f228 := Tryz.func73.trans (congrArg some (by kernel_rfl))
  f232 := Tryz.func52.trans (congrArg some (by kernel_rfl))
  f234 := Tryz.func55.trans (congrArg some (by kernel_rfl))
  f236 := Tryz.func57.trans (congrArg some (by kernel_rfl))
  f260 := Tryz.func89.trans (congrArg some (by kernel_rfl))
  f266 := Tryz.func113.trans (congrArg some (by kernel_rfl))
  f271 := Tryz.func76.trans (congrArg some (by kernel_rfl))
  t0 := Tryz.underlying0
  a0 := Tryz.isAgg0
  z0 := Tryz.sizeOf0
  v0 := Tryz.zeroValue0
  t3 := Tryz.underlying3
  a3 := Tryz.isAgg3
  z3 := Tryz.sizeOf3
  v3 := Tryz.zeroValue3
  t4 := Tryz.underlying4
  a4 := Tryz.isAgg4
  z4 := Tryz.sizeOf4
  v4 := Tryz.zeroValue4
  t5 := Tryz.underlying5
  a5 := Tryz.isAgg5
  z5 := Tryz.sizeOf5
  v5 := Tryz.zeroValue5
  t9 := Tryz.underlying9
  a9 := Tryz.isAgg9
  z9 := Tryz.sizeOf9
  v9 := Tryz.zeroValue9
  t21 := Tryz.underlying21
  a21 := Tryz.isAgg21
  z21 := Tryz.sizeOf21
  v21 := Tryz.zeroValue21
  t46 := Tryz.underlying78
  a46 := Tryz.isAgg78
  z46 := Tryz.sizeOf78
  v46 := Tryz.zeroValue78
  t105 := Tryz.underlying109
  a105 := Tryz.isAgg109
  z105 := Tryz.sizeOf109
  v105 := Tryz.zeroValue109
  t116 := Tryz.underlying86
  a116 := Tryz.isAgg86
  z116 := Tryz.sizeOf86
  t117 := Tryz.underlying87
  a117 := Tryz.isAgg87
  z117 := Tryz.sizeOf87
  v117 := Tryz.zeroValue87
  t119 := Tryz.underlying151
  a119 := Tryz.isAgg151
  z119 := Tryz.sizeOf151
  t124 := Tryz.underlying90
  a124 := Tryz.isAgg90
  z124 := Tryz.sizeOf90
  v124 := Tryz.zeroValue90
  t138 := Tryz.underlying153
  a138 := Tryz.isAgg153
  z138 := Tryz.sizeOf153
  v138 := Tryz.zeroValue153
  t139 := Tryz.underlying154
  a139 := Tryz.isAgg154
  z139 := Tryz.sizeOf154
  v139 := Tryz.zeroValue154
  g3 := by kernel_rfl
  g4 := by kernel_rfl }
end
def clRen : Go.Shelf.Ren := ⟨fun | 41 => 67 | n => n, fun | 4 => 4 | 22 => 42 | 23 => 51 | n => n, fun | n => n⟩
theorem clLay : Go.Proofs.SlLaysE0.n41 Tryz.prog clRen := {
  mixed := by kernel_rfl
  f41 := ⟨Tryz.f67.name, by decide, Tryz.func67.trans (congrArg some (by kernel_rfl))⟩
  t4 := Tryz.underlying4
  a4 := Tryz.isAgg4
  z4 := Tryz.sizeOf4
  v4 := Tryz.zeroValue4
  t22 := Tryz.underlying42
  a22 := Tryz.isAgg42
  z22 := Tryz.sizeOf42
  v22 := Tryz.zeroValue42 }
theorem mixed : Tryz.prog.follows .mixedOrders = true := by kernel_rfl
def addU : List AV → List Obj → Option (Out × List Obj)
  | [.d (.int .u64 x), .d (.int .u64 y), .d (.int .u64 c)], [] => if 0 ≤ x ∧ 0 ≤ y ∧ c = 0 ∧ x + y < 18446744073709551616 then some (.ret (.tup [.d (.int .u64 (x + y)), .d (.int .u64 0)]), []) else none
  | _, _ => none
theorem addU_sound {args : List AV} {sto : List Obj} {out : Out} {sto' : List Obj} (h : addU args sto = some (out, sto')) {w : World} {F : Nat → Prop} {β : Bl} {us : Array Value} (hS : SRel w F β sto) (hus : ARel w F β args us) :
    CallsF Tryz.prog 86 us w (Res w F β sto out sto') := by
  unfold addU at h
  split at h
  · rename_i x y c
    split at h
    · rename_i hc
      cases h
      have hsz : us.size = 3 := hus.1
      have e0 := hus.2 0 _ us[0] rfl (Array.getElem?_eq_getElem (by omega))
      have e1 := hus.2 1 _ us[1] rfl (Array.getElem?_eq_getElem (by omega))
      have e2 := hus.2 2 _ us[2] rfl (Array.getElem?_eq_getElem (by omega))
      have e : us = #[.int .u64 x, .int .u64 y, .int .u64 c] := by
        apply Array.ext
        · simp [hsz]
        · intro i h1 h2
          match i, h1, h2 with
          | 0, _, _ => simpa using inv_int e0
          | 1, _, _ => simpa using inv_int e1
          | 2, _, _ => simpa using inv_int e2
          | i + 3, h1, _ => omega
      subst e
      refine .inr ⟨.tuple #[.int .u64 (x + y), .int .u64 0], w, ext_run (fn := Tryz.f86) Tryz.func86 (by kernel_rfl) (by kernel_rfl) (by kernel_rfl) (e := (Go.Extern.MathBitsCarry.rows[0]'(by decide)).2) (by kernel_rfl) ?_, Res.same hS ?_⟩
      · obtain ⟨h1, h2, rfl, h3⟩ := hc
        have m : (x.toNat + y.toNat + 0) % Extern.MathBitsCarry.m64 = x.toNat + y.toNat := by
          unfold Extern.MathBitsCarry.m64
          rw [Nat.mod_eq_of_lt (by omega)]; rfl
        have d : (x.toNat + y.toNat + 0) / Extern.MathBitsCarry.m64 = 0 := by
          unfold Extern.MathBitsCarry.m64
          exact Nat.div_eq_of_lt (by omega)
        have e : ((x.toNat + y.toNat : Nat) : Int) = x + y := by omega
        have r : ((Go.Extern.MathBitsCarry.rows[0]'(by decide)).2 #[.int .u64 x, .int .u64 y, .int .u64 0]).run Tryz.prog w = .ok (.tuple #[.int .u64 (Int.ofNat ((x.toNat + y.toNat + 0) % Extern.MathBitsCarry.m64)), .int .u64 (Int.ofNat ((x.toNat + y.toNat + 0) / Extern.MathBitsCarry.m64))]) w := rfl
        rw [r, m, d]
        show Result.ok (Value.tuple #[.int .u64 ((x.toNat + y.toNat : Nat) : Int), .int .u64 0]) w = _
        rw [e]
      · refine .tup _ _ rfl fun j y u hy hu => ?_
        match j with
        | 0 => simp at hy hu; subst hy; subst hu; exact .d _ _ (.int _ _)
        | 1 => simp at hy hu; subst hy; subst hu; exact .d _ _ (.int _ _)
        | j + 2 => simp at hy
    · cases h
  · cases h
def XB : Calling := fun f args sto => match f with
  | 86 => addU args sto
  | 33 => xTrim args sto
  | 41 => xTrimLeft args sto
  | 64 => xAs args sto
  | 67 => xClone 1 args sto
  | 63 => xTrimRight args sto
  | 34 => xItoa args sto
  | _ => none
theorem XB_sound : Sound Tryz.prog XB := by
  intro f args sto out sto' h w F β us hS hus
  unfold XB at h
  split at h
  · exact addU_sound h hS hus
  · exact xTrim_sound flag_g layTrim (by kernel_rfl) (fn := Tryz.f33) Tryz.func33 (by kernel_rfl) (by kernel_rfl) h hS hus
  · exact xTrimLeft_sound flag_g layTrimLeft (by kernel_rfl) (fn := Tryz.f41) Tryz.func41 (by kernel_rfl) (by kernel_rfl) h hS hus
  · exact xAs_sound h hS hus
  · exact xClone_sound (z := .int .u32 0) (size := 1) (bytes := 4) flag_g clLay (by kernel_rfl) rfl (by decide) (fun w => Tryz.sizeOf51 w) (fn := Tryz.f67) Tryz.func67 (by kernel_rfl) (by kernel_rfl) h hS hus
  · exact xTrimRight_sound flag_g layTrimRight (by kernel_rfl) (fn := Tryz.f63) Tryz.func63 (by kernel_rfl) (by kernel_rfl) h hS hus
  · exact xItoa_sound h hS hus
  · cases h
theorem heads_run : callF tab XB 60 8 [] [] = some (.ret (.d (.bool true)), []) := by kernel_rfl
end Go.Proofs.YtkkekfehjbbhoaaGreatDoor.V
