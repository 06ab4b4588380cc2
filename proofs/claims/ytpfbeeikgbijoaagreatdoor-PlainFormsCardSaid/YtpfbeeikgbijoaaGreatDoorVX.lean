/- What the functions do, without fuel; what comes at any rate by the kernel. -/
import Derived.Test.YtpfbeeikgbijoaaGreatDoorVE
import Derived.Test.YtpfbeeikgbijoaaGreatDoorVH
namespace Go.Proofs.YtpfbeeikgbijoaaGreatDoor.V
open Go
set_option linter.unusedVariables false
set_option linter.unnecessarySimpa false
set_option linter.unusedSimpArgs false
set_option linter.unusedSectionVars false
def XX : Calling := fun f args sto => match f with
  | 15 => (match args, sto with
    | [], [] => some (.ret (.d (.bool true)), [])
    | _, _ => none)
  | f => XB f args sto
theorem XX_sound : Sound Tryz.prog XX := by
  intro f args sto out sto' h w F β us hS hus
  unfold XX at h
  split at h
  · split at h
    · cases h
      exact callF_sound mixed tab_ok XB_sound 80 15 [] [] _ _ heads_run w F β us hS hus
    · cases h
  · exact XB_sound _ _ _ _ _ h w F β us hS hus
noncomputable abbrev R : Calling := lim tab XX
theorem R_fn {f : FuncId} {fn : VFn} (hV : tab f = some fn) {args : List AV} {sto : List Obj} {r : Out × List Obj} (hX : XX f args sto = none) (h : ∃ n0, ∀ n, n0 ≤ n → evalFn R (byrefOf tab) n fn args sto = some r) : R f args sto = some r := lim_fn hV hX h
theorem R_sound : Sound Tryz.prog R := lim_sound mixed tab_ok XX_sound
theorem R_heads : R 15 [] [] = some (.ret (.d (.bool true)), []) := lim_x rfl
theorem tab_4 : tab 4 = some f4 := rfl
theorem tab_8 : tab 8 = some f8 := rfl
theorem tab_10 : tab 10 = some f10 := rfl
theorem tab_13 : tab 13 = some f13 := rfl
theorem tab_15 : tab 15 = some f15 := rfl
theorem tab_16 : tab 16 = some f16 := rfl
theorem tab_17 : tab 17 = some f17 := rfl
theorem tab_18 : tab 18 = some f18 := rfl
theorem tab_20 : tab 20 = some f20 := rfl
theorem tab_24 : tab 24 = some f24 := rfl
theorem tab_25 : tab 25 = some f25 := rfl
theorem tab_26 : tab 26 = some f26 := rfl
theorem tab_27 : tab 27 = some f27 := rfl
theorem tab_28 : tab 28 = some f28 := rfl
theorem tab_29 : tab 29 = some f29 := rfl
theorem tab_30 : tab 30 = some f30 := rfl
theorem tab_31 : tab 31 = some f31 := rfl
theorem tab_32 : tab 32 = some f32 := rfl
theorem tab_34 : tab 34 = some f34 := rfl
theorem tab_35 : tab 35 = some f35 := rfl
theorem tab_36 : tab 36 = some f36 := rfl
theorem tab_46 : tab 46 = some f46 := rfl
theorem tab_47 : tab 47 = some f47 := rfl
theorem tab_48 : tab 48 = some f48 := rfl
theorem tab_49 : tab 49 = some f49 := rfl
theorem tab_50 : tab 50 = some f50 := rfl
theorem tab_51 : tab 51 = some f51 := rfl
theorem tab_52 : tab 52 = some f52 := rfl
theorem tab_53 : tab 53 = some f53 := rfl
theorem tab_54 : tab 54 = some f54 := rfl
theorem tab_55 : tab 55 = some f55 := rfl
theorem tab_56 : tab 56 = some f56 := rfl
theorem tab_57 : tab 57 = some f57 := rfl
theorem tab_58 : tab 58 = some f58 := rfl
theorem tab_59 : tab 59 = some f59 := rfl
theorem tab_60 : tab 60 = some f60 := rfl
theorem tab_61 : tab 61 = some f61 := rfl
theorem tab_62 : tab 62 = some f62 := rfl
theorem tab_63 : tab 63 = some f63 := rfl
theorem tab_64 : tab 64 = some f64 := rfl
theorem tab_65 : tab 65 = some f65 := rfl
theorem tab_66 : tab 66 = some f66 := rfl
theorem tab_67 : tab 67 = some f67 := rfl
theorem tab_68 : tab 68 = some f68 := rfl
theorem tab_69 : tab 69 = some f69 := rfl
theorem tab_70 : tab 70 = some f70 := rfl
theorem tab_71 : tab 71 = some f71 := rfl
theorem tab_72 : tab 72 = some f72 := rfl
theorem tab_73 : tab 73 = some f73 := rfl
theorem tab_74 : tab 74 = some f74 := rfl
theorem tab_86 : tab 86 = some f86 := rfl
theorem tab_87 : tab 87 = some f87 := rfl
theorem tab_88 : tab 88 = some f88 := rfl
theorem tab_90 : tab 90 = some f90 := rfl
theorem tab_91 : tab 91 = some f91 := rfl
theorem tab_93 : tab 93 = some f93 := rfl
theorem tab_94 : tab 94 = some f94 := rfl
theorem tab_97 : tab 97 = some f97 := rfl
theorem tab_98 : tab 98 = some f98 := rfl
theorem tab_99 : tab 99 = some f99 := rfl
theorem tab_100 : tab 100 = some f100 := rfl
theorem tab_101 : tab 101 = some f101 := rfl
theorem tab_102 : tab 102 = some f102 := rfl
theorem tab_103 : tab 103 = some f103 := rfl
theorem tab_104 : tab 104 = some f104 := rfl
theorem tab_111 : tab 111 = some f111 := rfl
theorem tab_119 : tab 119 = some f119 := rfl
theorem tab_123 : tab 123 = some f123 := rfl
theorem tab_128 : tab 128 = some f128 := rfl
theorem tab_129 : tab 129 = some f129 := rfl
theorem tab_130 : tab 130 = some f130 := rfl
end Go.Proofs.YtpfbeeikgbijoaaGreatDoor.V
