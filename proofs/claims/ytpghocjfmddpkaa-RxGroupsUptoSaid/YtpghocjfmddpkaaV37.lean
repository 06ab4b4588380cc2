/- Functions by the kit's own contracts: what a call leaves below; slices.Clone of nothing. -/
import Derived.Test.YtpghocjfmddpkaaV30
import Derived.Shelf.SlLaysE0
import Derived.Shelf.RegionOpenPlain
import Derived.WalkKit
import Derived.Deep.LoopGhost
import Derived.Lib.Walk
import Derived.Lib.SliceRun
namespace Go.Proofs.Ytpghocjfmddpkaa.V
open Go Go.Shelf Go.RowKit Go.Lib
set_option linter.unusedVariables false
set_option linter.unusedSimpArgs false
set_option linter.unusedSectionVars false
variable [Inhabited Flag]
variable {P : Program} {ρ : Ren}
end Go.Proofs.Ytpghocjfmddpkaa.V
