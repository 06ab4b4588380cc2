/- What slices.Clone of nothing answers; heads: what must come at any rate, carried out. -/
import Derived.Test.YtpfbeeikgbijoaaGreatDoorVT
import Derived.Test.YtpfbeeikgbijoaaGreatDoorV36
import Derived.Test.YtpfbeeikgbijoaaGreatDoorV38
namespace Go.Proofs.YtpfbeeikgbijoaaGreatDoor.V
open Go
set_option linter.unusedVariables false
set_option linter.unnecessarySimpa false
set_option linter.unusedSimpArgs false
set_option linter.unusedSectionVars false
theorem mixed : Tryz.prog.follows .mixedOrders = true := by kernel_rfl
def clRen : Go.Shelf.Ren := ⟨fun | 41 => 35 | n => n, fun | 4 => 4 | 22 => 23 | 23 => 62 | n => n, fun | n => n⟩
theorem clLay : Go.Proofs.SlLaysE0.n41 Tryz.prog clRen := {
  mixed := by kernel_rfl
  f41 := ⟨Tryz.f35.name, by decide, Tryz.func35.trans (congrArg some (by kernel_rfl))⟩
  t4 := Tryz.underlying4
  a4 := Tryz.isAgg4
  z4 := Tryz.sizeOf4
  v4 := Tryz.zeroValue4
  t22 := Tryz.underlying23
  a22 := Tryz.isAgg23
  z22 := Tryz.sizeOf23
  v22 := Tryz.zeroValue23 }
def XB : Calling := fun f args sto => match f with
  | 35 => xClone 3 args sto
  | _ => none
theorem XB_sound : Sound Tryz.prog XB := by
  intro f args sto out sto' h w F β us hS hus
  unfold XB at h
  split at h
  · exact xClone_sound (z := .agg #[.string ⟨#[]⟩, .int .i64 0, .int .i64 0]) (size := 3) (bytes := 32) flag_off clLay (by kernel_rfl) rfl (by decide) (fun w => Tryz.sizeOf62 w) (fn := Tryz.f35) Tryz.func35 (by kernel_rfl) (by kernel_rfl) h hS hus
  · cases h
theorem heads_run : callF tab XB 80 15 [] [] = some (.ret (.d (.bool true)), []) := by kernel_rfl
end Go.Proofs.YtpfbeeikgbijoaaGreatDoor.V
