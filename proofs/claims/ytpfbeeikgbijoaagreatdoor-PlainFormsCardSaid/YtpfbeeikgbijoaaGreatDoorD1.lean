/- The law PlainForms. -/
import Derived.Test.YtpfbeeikgbijoaaGreatDoorVP
import Derived.Test.YtpfbeeikgbijoaaGreatDoorVY
namespace Go.Proofs.YtpfbeeikgbijoaaGreatDoor.V
open Go
set_option linter.unusedVariables false
set_option linter.unnecessarySimpa false
set_option linter.unusedSimpArgs false
set_option linter.unusedSectionVars false
theorem forms_true {f : Form} : law_PlainForms f true := by
  cases hn : f.Never with
  | true => exact law_PlainForms_r1 (plain_Yes_r0 hn) (ref17_Yes_r0 hn) R_heads
  | false =>
    by_cases h : (f.Rules.xs.length : Int) = 0
    · exact law_PlainForms_r0 (plain_Yes_r1 hn h) (ref17_Yes_r1 hn h) R_heads
    · exact law_PlainForms_r1 (plain_Yes_r2 hn h) (ref17_Yes_r2 hn h) R_heads
end Go.Proofs.YtpfbeeikgbijoaaGreatDoor.V
