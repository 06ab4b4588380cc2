/- The laws of numbers, of all that may be handed in. -/
import Derived.Test.YtlijicnknhopkaaDoorM6
import Derived.Test.YtlijicnknhopkaaDoorVY
namespace Go.Proofs.YtlijicnknhopkaaDoor.V
open Go
set_option linter.unusedVariables false
set_option linter.unnecessarySimpa false
set_option linter.unusedSimpArgs false
set_option linter.unusedSectionVars false
theorem wf_huge {l : SL Int} (h : wfS 4 (inK .u32) l) : huge l.xs := by
  have := h.1
  unfold huge; omega
theorem wf_u32 {l : SL Int} (h : wfS 4 (inK .u32) l) : u32s l.xs := fun x hx => by
  have := h.2 x hx
  unfold inK Lit.wf at this
  simp [IntKind.min, IntKind.max, IntKind.signed, IntKind.bits] at this
  omega
theorem rests_true {a b : SL Int} (ha : wfS 4 (inK .u32) a) (hb : wfS 4 (inK .u32) b) : law_NatRests a b true := rests_run (wf_huge ha) (wf_huge hb) (wf_u32 ha) (wf_u32 hb)
theorem ring_true {a b c : SL Int} (ha : wfS 4 (inK .u32) a) (hb : wfS 4 (inK .u32) b) (hc : wfS 4 (inK .u32) c) : law_NatRing a b c true := ring_run (wf_huge ha) (wf_huge hb) (wf_huge hc) (wf_u32 ha) (wf_u32 hb) (wf_u32 hc)
theorem powers_true {a b : SL Int} {m n : Int} (ha : wfS 4 (inK .u32) a) (hb : wfS 4 (inK .u32) b) : law_NatPowers a m n b true := powers_run (wf_huge ha) (wf_huge hb) (wf_u32 ha) (wf_u32 hb)
end Go.Proofs.YtlijicnknhopkaaDoor.V
