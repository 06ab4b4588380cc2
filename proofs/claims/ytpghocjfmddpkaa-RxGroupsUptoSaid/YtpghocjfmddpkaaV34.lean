/- What is handed in, as typed data. -/
import Derived.Test.YtpghocjfmddpkaaV28
import Derived.Test.YtpghocjfmddpkaaV30
namespace Go.Proofs.Ytpghocjfmddpkaa.V
open Go
set_option linter.unusedVariables false
set_option linter.unusedSimpArgs false
set_option linter.unusedSectionVars false
def wfStr (s : ByteArray) : Prop := s.size ≤ 140737488351232
section
variable {P : Program} {n : Nat} {t : TypeId} {xs : List D}
theorem dec_str (hu : P.underlying t = some .string) (h : TyD P n t xs) : ∃ s, xs = [.str s] ∧ wfStr s := by
  cases n with
  | zero => exact h.elim
  | succ n => simp only [TyD, hu] at h; exact h
theorem arg_one {d : TypeDesc} (hu : P.underlying t = some d) (hd : isAggD d = false) {x : D} (h : TyV P n t x) : TyD P n t [x] := by
  obtain ⟨d', h1, h2⟩ := h
  rw [hu] at h1
  cases h1
  rw [hd] at h2
  exact h2
end
end Go.Proofs.Ytpghocjfmddpkaa.V
