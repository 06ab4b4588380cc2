/- The law NfaChecks, of all that may be handed in. -/
import Derived.Test.YtgoalemieifcdaaN3
import Derived.Test.YtgoalemieifcdaaVY
namespace Go.Proofs.Ytgoalemieifcdaa.V
open Go
set_option linter.unusedVariables false
set_option linter.unusedSimpArgs false
set_option linter.unusedSectionVars false
theorem wfStates_of {l : SL State} (h : wfS 48 wf_State l) : wfStates l := by
  refine ⟨by have := h.1; unfold small; omega, fun s hs => ?_⟩
  have h1 := (h.2 s hs).2.1.1
  unfold small
  omega
theorem checks_true {l : SL State} (h : wfS 48 wf_State l) : law_NfaChecks l true := checks_run (wfStates_of h)
end Go.Proofs.Ytgoalemieifcdaa.V
