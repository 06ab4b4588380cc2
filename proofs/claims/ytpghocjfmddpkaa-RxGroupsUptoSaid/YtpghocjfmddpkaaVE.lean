/- Typed data of this seat. -/
import Derived.Test.YtpghocjfmddpkaaV30
namespace Go.Proofs.Ytpghocjfmddpkaa.V
open Go
set_option linter.unusedVariables false
/- PARTS: printed by wip/gen/pp.py -/
structure Range where
  From : Int
  To : Int
def e_Range (x : Range) : D := (.agg [(di x.From), (di x.To)])
structure Rx where
  Kind : Int
  Ranges : SL Range
  Min : Int
  Max : Int
  Lazy : Bool
  Sub : SL Rx
mutual
def eR_Rx : Rx → D
  | ⟨a0, a1, a2, a3, a4, ⟨e5, l5, t5⟩⟩ => .agg [(di a0), (slD 2 e_Range a1), (di a2), (di a3), (.bool a4), .sl (esOf 6 e5 l5) (eR_RxL l5) t5]
def eR_RxL : List Rx → List D
  | [] => []
  | x :: r => eR_Rx x :: eR_RxL r
end
theorem eR_RxL_eq : ∀ l : List Rx, eR_RxL l = l.map eR_Rx
  | [] => rfl
  | x :: r => by rw [eR_RxL, eR_RxL_eq r]; rfl
def e_Rx (x : Rx) : D := (.agg [(di x.Kind), (slD 2 e_Range x.Ranges), (di x.Min), (di x.Max), (.bool x.Lazy), (slD 6 eR_Rx x.Sub)])
theorem eR_Rx_eq (x : Rx) : eR_Rx x = (.agg [(di x.Kind), (slD 2 e_Range x.Ranges), (di x.Min), (di x.Max), (.bool x.Lazy), (slD 6 eR_Rx x.Sub)]) := by
  obtain ⟨a0, a1, a2, a3, a4, ⟨e5, l5, t5⟩⟩ := x
  simp only [eR_Rx, eR_RxL_eq]
  rfl
structure rx_reader where
  s_ : SL Int
  deep_ : Int
def e_rx_reader (x : rx_reader) : D := (.agg [(slD 1 (D.int .i64) x.s_), (di x.deep_)])
structure runtime_errorAddressString where
  msg_ : ByteArray
  addr_ : Int
def e_runtime_errorAddressString (x : runtime_errorAddressString) : D := (.agg [(.str x.msg_), (.int .u64 x.addr_)])
end Go.Proofs.Ytpghocjfmddpkaa.V
