/- Typed data of this seat. -/
import Derived.Test.YtlijicnknhopkaaDoorV30
set_option linter.unusedSimpArgs false
set_option linter.unusedSectionVars false
namespace Go.Proofs.YtlijicnknhopkaaDoor.V
open Go
set_option linter.unusedVariables false
/- PARTS: printed by wip/gen/pp.py -/

end Go.Proofs.YtlijicnknhopkaaDoor.V
