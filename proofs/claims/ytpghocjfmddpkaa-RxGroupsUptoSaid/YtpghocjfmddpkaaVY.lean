/- What is handed in, as typed data (printed). -/
import Derived.Test.YtpghocjfmddpkaaVX
import Derived.Test.YtpghocjfmddpkaaV34
import Derived.Test.YtpghocjfmddpkaaVE
namespace Go.Proofs.Ytpghocjfmddpkaa.V
open Go
set_option linter.unusedVariables false
set_option linter.unusedSimpArgs false
set_option maxRecDepth 100000

end Go.Proofs.Ytpghocjfmddpkaa.V
