/- Typed data of this seat. -/
import Derived.Test.YtkkekfehjbbhoaaGreatDoorV30
namespace Go.Proofs.YtkkekfehjbbhoaaGreatDoor.V
open Go
set_option linter.unusedVariables false
/- PARTS: printed by wip/gen/pp.py -/
structure Dec where
  Neg : Bool
  Digits : ByteArray
  Exp : Int
def e_Dec (x : Dec) : D := (.agg [(.bool x.Neg), (.str x.Digits), (di x.Exp)])
end Go.Proofs.YtkkekfehjbbhoaaGreatDoor.V
