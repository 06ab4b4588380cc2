/- heads: what must come at any rate, carried out. -/
import Derived.Test.YtgoalemieifcdaaVT
namespace Go.Proofs.Ytgoalemieifcdaa.V
open Go
set_option linter.unusedVariables false
set_option linter.unusedSimpArgs false
set_option linter.unusedSectionVars false
theorem heads_run : callF tab noX 60 9 [] [] = some (.ret (.d (.bool true)), []) := by kernel_rfl
end Go.Proofs.Ytgoalemieifcdaa.V
