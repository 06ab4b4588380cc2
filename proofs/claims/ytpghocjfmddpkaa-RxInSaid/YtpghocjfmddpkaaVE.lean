/- Typed data of this seat. -/
import Derived.Test.YtpghocjfmddpkaaV30
set_option linter.unusedSimpArgs false
set_option linter.unusedSectionVars false
namespace Go.Proofs.Ytpghocjfmddpkaa.V
open Go
set_option linter.unusedVariables false
/- PARTS: printed by wip/gen/pp.py -/
structure Range where
  From : Int
  To : Int
def e_Range (x : Range) : D := (.agg [(di x.From), (di x.To)])
end Go.Proofs.Ytpghocjfmddpkaa.V
