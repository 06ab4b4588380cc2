/- Typed data of this seat. -/
import Derived.Test.YtpfbeeikgbijoaaGreatDoorV30
namespace Go.Proofs.YtpfbeeikgbijoaaGreatDoor.V
open Go
set_option linter.unusedVariables false
/- PARTS: printed by wip/gen/pp.py -/
structure Dec where
  Neg : Bool
  Digits : ByteArray
  Exp : Int
def e_Dec (x : Dec) : D := (.agg [(.bool x.Neg), (.str x.Digits), (di x.Exp)])
structure Value where
  Kind : Int
  Num : Dec
  Text : ByteArray
  List : SL Value
  Keys : SL ByteArray
mutual
def eR_Value : Value → D
  | ⟨a0, a1, a2, ⟨e3, l3, t3⟩, a4⟩ => .agg [(di a0), (.bool a1.Neg), (.str a1.Digits), (di a1.Exp), (.str a2), .sl (esOf 7 e3 l3) (eR_ValueL l3) t3, (slD 1 D.str a4)]
def eR_ValueL : List Value → List D
  | [] => []
  | x :: r => eR_Value x :: eR_ValueL r
end
theorem eR_ValueL_eq : ∀ l : List Value, eR_ValueL l = l.map eR_Value
  | [] => rfl
  | x :: r => by rw [eR_ValueL, eR_ValueL_eq r]; rfl
def e_Value (x : Value) : D := (.agg [(di x.Kind), (.bool x.Num.Neg), (.str x.Num.Digits), (di x.Num.Exp), (.str x.Text), (slD 7 eR_Value x.List), (slD 1 D.str x.Keys)])
theorem eR_Value_eq (x : Value) : eR_Value x = (.agg [(di x.Kind), (.bool x.Num.Neg), (.str x.Num.Digits), (di x.Num.Exp), (.str x.Text), (slD 7 eR_Value x.List), (slD 1 D.str x.Keys)]) := by
  obtain ⟨a0, a1, a2, ⟨e3, l3, t3⟩, a4⟩ := x
  simp only [eR_Value, eR_ValueL_eq]
  rfl
structure Rule where
  Kind : Int
  N : Int
  M : Int
  Num : Dec
  Vals : SL Value
  Names : SL ByteArray
  Pats : SL ByteArray
  Subs : SL Int
def e_Rule (x : Rule) : D := (.agg [(di x.Kind), (di x.N), (di x.M), (.bool x.Num.Neg), (.str x.Num.Digits), (di x.Num.Exp), (slD 7 eR_Value x.Vals), (slD 1 D.str x.Names), (slD 1 D.str x.Pats), (slD 1 (D.int .i64) x.Subs)])
structure Form where
  Never : Bool
  Resource : Int
  Rules : SL Rule
def e_Form (x : Form) : D := (.agg [(.bool x.Never), (di x.Resource), (slD 10 e_Rule x.Rules)])
end Go.Proofs.YtpfbeeikgbijoaaGreatDoor.V
