/- The laws RxSets and RxIn, of all that may be handed in. -/
import Derived.Test.YtpghocjfmddpkaaR1
import Derived.Test.YtpghocjfmddpkaaVY
set_option linter.unusedVariables false
set_option linter.unusedSimpArgs false
set_option linter.unusedSectionVars false
namespace Go.Proofs.Ytpghocjfmddpkaa.V
open Go
theorem wf_small {l : SL Range} (h : wfS 16 wf_Range l) : small (l.xs.length + 6) := by
  have := h.1
  unfold small
  omega
theorem sets_true {l : SL Range} (h : wfS 16 wf_Range l) : law_RxSets l true := by
  have h1 := wf_small h
  exact sets_run (by unfold small at h1 ⊢; omega)
theorem in_true {l : SL Range} {p : Int} (h : wfS 16 wf_Range l) : law_RxIn l p true := rxin_run (wf_small h)
end Go.Proofs.Ytpghocjfmddpkaa.V
