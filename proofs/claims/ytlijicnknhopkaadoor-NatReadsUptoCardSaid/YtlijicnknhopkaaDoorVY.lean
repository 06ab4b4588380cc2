/- What is handed in, as typed data (printed). -/
import Derived.Test.YtlijicnknhopkaaDoorVX
import Derived.Test.YtlijicnknhopkaaDoorV34
import Derived.Test.YtlijicnknhopkaaDoorVE
set_option linter.unusedSectionVars false
namespace Go.Proofs.YtlijicnknhopkaaDoor.V
open Go
set_option linter.unusedVariables false
set_option linter.unusedSimpArgs false
set_option maxRecDepth 100000
theorem dec22 {n : Nat} {xs : List D} (h : TyD Tryd.prog n 22 xs) : ∃ s : SL Int, xs = [slD 1 (D.int .u32) s] ∧ wfS 4 (inK .u32) s := by
  cases n with
  | zero => exact h.elim
  | succ n => exact dec_slice Tryd.underlying22 (by kernel_rfl) (by kernel_rfl) (fun y h => by have h1 := elem_of Tryd.underlying54 rfl h; obtain ⟨a, h3, h4⟩ := (dec_int Tryd.underlying54 h1); exact ⟨a, by simpa using h3, h4⟩) h
end Go.Proofs.YtlijicnknhopkaaDoor.V
