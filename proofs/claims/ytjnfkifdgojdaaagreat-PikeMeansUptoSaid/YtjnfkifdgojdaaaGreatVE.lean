/- Typed data of this seat. -/
import Derived.Test.YtjnfkifdgojdaaaGreatV30
namespace Go.Proofs.YtjnfkifdgojdaaaGreat.V
open Go
set_option linter.unusedVariables false
/- PARTS: printed by wip/gen/pp.py -/
structure Range where
  From : Int
  To : Int
def e_Range (x : Range) : D := (.agg [(di x.From), (di x.To)])
structure Rx where
  Kind : Int
  Ranges : SL Range
  Min : Int
  Max : Int
  Lazy : Bool
  Sub : SL Rx
mutual
def eR_Rx : Rx → D
  | ⟨a0, a1, a2, a3, a4, ⟨e5, l5, t5⟩⟩ => .agg [(di a0), (slD 2 e_Range a1), (di a2), (di a3), (.bool a4), .sl (esOf 6 e5 l5) (eR_RxL l5) t5]
def eR_RxL : List Rx → List D
  | [] => []
  | x :: r => eR_Rx x :: eR_RxL r
end
theorem eR_RxL_eq : ∀ l : List Rx, eR_RxL l = l.map eR_Rx
  | [] => rfl
  | x :: r => by rw [eR_RxL, eR_RxL_eq r]; rfl
def e_Rx (x : Rx) : D := (.agg [(di x.Kind), (slD 2 e_Range x.Ranges), (di x.Min), (di x.Max), (.bool x.Lazy), (slD 6 eR_Rx x.Sub)])
theorem eR_Rx_eq (x : Rx) : eR_Rx x = (.agg [(di x.Kind), (slD 2 e_Range x.Ranges), (di x.Min), (di x.Max), (.bool x.Lazy), (slD 6 eR_Rx x.Sub)]) := by
  obtain ⟨a0, a1, a2, a3, a4, ⟨e5, l5, t5⟩⟩ := x
  simp only [eR_Rx, eR_RxL_eq]
  rfl
structure State where
  Kind : Int
  Ranges : SL Range
  A : Int
  B : Int
def e_State (x : State) : D := (.agg [(di x.Kind), (slD 2 e_Range x.Ranges), (di x.A), (di x.B)])
structure runtime_boundsError where
  x_ : Int
  y_ : Int
  signed_ : Bool
  code_ : Int
def e_runtime_boundsError (x : runtime_boundsError) : D := (.agg [(di x.x_), (di x.y_), (.bool x.signed_), (.int .u8 x.code_)])
structure runtime_TypeAssertionError where
  _interface_ : D
  concrete_ : D
  asserted_ : D
  missingMethod_ : ByteArray
def e_runtime_TypeAssertionError (x : runtime_TypeAssertionError) : D := (.agg [x._interface_, x.concrete_, x.asserted_, (.str x.missingMethod_)])
structure pike_run where
  l_ : SL State
  s_ : SL Int
def e_pike_run (x : pike_run) : D := (.agg [(slD 4 e_State x.l_), (slD 1 (D.int .i64) x.s_)])
end Go.Proofs.YtjnfkifdgojdaaaGreat.V
