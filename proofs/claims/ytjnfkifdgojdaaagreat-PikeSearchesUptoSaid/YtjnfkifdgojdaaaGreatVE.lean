/- Typed data of this seat. -/
import Derived.Test.YtjnfkifdgojdaaaGreatV30
namespace Go.Proofs.YtjnfkifdgojdaaaGreat.V
open Go
set_option linter.unusedVariables false
/- PARTS: printed by wip/gen/pp.py -/
structure Range where
  From : Int
  To : Int
def e_Range (x : Range) : D := (.agg [(di x.From), (di x.To)])
structure State where
  Kind : Int
  Ranges : SL Range
  A : Int
  B : Int
def e_State (x : State) : D := (.agg [(di x.Kind), (slD 2 e_Range x.Ranges), (di x.A), (di x.B)])
structure pike_run where
  l_ : SL State
  s_ : SL Int
def e_pike_run (x : pike_run) : D := (.agg [(slD 4 e_State x.l_), (slD 1 (D.int .i64) x.s_)])
end Go.Proofs.YtjnfkifdgojdaaaGreat.V
