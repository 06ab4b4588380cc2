/- heads: what must come at any rate, carried out. -/
import Derived.Test.YtgoalemieifcdaaVT
import Derived.Test.YtgoalemieifcdaaV36
import Derived.Test.YtgoalemieifcdaaV37
namespace Go.Proofs.Ytgoalemieifcdaa.V
open Go
set_option linter.unusedVariables false
set_option linter.unusedSimpArgs false
set_option linter.unusedSectionVars false
def clRen : Go.Shelf.Ren := ⟨fun | 41 => 30 | n => n, fun | 4 => 4 | 22 => 29 | 23 => 59 | n => n, fun | n => n⟩
theorem clLay : Go.Proofs.SlLaysE0.n41 Try.prog clRen := {
  mixed := by kernel_rfl
  f41 := ⟨Try.f30.name, by decide, Try.func30.trans (congrArg some (by kernel_rfl))⟩
  t4 := Try.underlying4
  a4 := Try.isAgg4
  z4 := Try.sizeOf4
  v4 := Try.zeroValue4
  t22 := Try.underlying29
  a22 := Try.isAgg29
  z22 := Try.sizeOf29
  v22 := Try.zeroValue29 }
def XCl : Calling := fun f args sto => if f = 30 then xClone 2 args sto else none
theorem XCl_sound : Sound Try.prog XCl := by
  intro f args sto out sto' h w F β us hS hus
  unfold XCl at h
  split at h
  · rename_i e
    subst e
    exact xClone_sound (z := .agg #[.int .i64 0, .int .i64 0]) (size := 2) (bytes := 16) flag_off clLay (by kernel_rfl) rfl (by decide) (fun w => Try.sizeOf59 w) (fn := Try.f30) Try.func30 (by kernel_rfl) (by kernel_rfl) h hS hus
  · cases h
theorem mixed : Try.prog.follows .mixedOrders = true := by kernel_rfl
theorem heads_run : callF tab noX 60 9 [] [] = some (.ret (.d (.bool true)), []) := by kernel_rfl
end Go.Proofs.Ytgoalemieifcdaa.V
