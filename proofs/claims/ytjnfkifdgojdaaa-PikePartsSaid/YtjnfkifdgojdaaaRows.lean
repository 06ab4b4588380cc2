/-
  NARROWER THAN 'FOR EVERY INPUT', by the rows' own cells (each row's printed sentence says how): PikeWithin: loops · PikeParts: loops.
  DERIVED. THE GIVEN ROWS OF THIS SEAT. 4 by the template 'for every input the law returns true; each argument reads behind the call as it read before'; 0 by the template 'total and deterministic' (their statements: YtjnfkifdgojdaaaTotals.lean).
  GIVEN WITH THE SEED: the statements are not yours to turn. If you find one false, say at which input.
  Laid BY PROGRAM, IN A SANDBOX (cutbox-rows.mjs): the forced cells as the released guide's own fill.sh prints them over the translation 1a177da01b42e4ad… (all of the seat's roots in one cut). By AI agents, Wed Nov 11 2026. No macro, syntax, notation, axiom, sorry.
-/
import Derived.Test.YtjnfkifdgojdaaaChecked
import GoSem.Claim
import GoSem.ClaimJoined
import GoSem.ClaimMapViews
import Derived.JoinedTies
import Derived.KernelRfl
namespace Go.Proofs.Ytjnfkifdgojdaaa
/- THE CELL 'sum', in the pinned program and in every row, IS THE sha256 OF THE DUMP (.gsa) THAT YtjnfkifdgojdaaaProg.lean LOADS. Nothing in Lean hashes anything: it is a label: what it is worth is what the hold of that sum in a sandbox is worth. -/
noncomputable def Try.pinned : Pinned := { name := "ytjnfkifdgojdaaa", sum := "1a177da01b42e4ad3b25db7bd8329f33430d5e061997aba5be7bc4253327878b", checked := Try.checked }
namespace Rows
def none {H : Type} : Left H := { results := [], args := [] }

/-- 'caliperlaw11.PikeClass': WHATEVER THE INPUT: true; the input reads as it did. -/
def pikeClassSpec : ChangeSpec := { name := "pikeClass", fn := fun _ => fun
  | [d1, d2] => { results := [.lit (.bool true)], args := [d1, d2] }
  | _ => none }
def pikeClassRow : OpenClaim := { program := "ytjnfkifdgojdaaa", sum := "1a177da01b42e4ad3b25db7bd8329f33430d5e061997aba5be7bc4253327878b", func := "caliper/caliperlaw11.PikeClass", spec := "pikeClass", inPlace := ["internal/bytealg.IndexByteString"], unfollowed := true, recurses := true, apart := false }
def PikeClassSaid : Prop := pikeClassRow.holds Try.pinned (OpenSpec.ofChange pikeClassSpec)

/-- ITS FALSE NEIGHBOUR: 'it returns false'. Refute it at one input. -/
def pikeClassWrong : ChangeSpec := { name := "pikeClass", fn := fun _ => fun
  | [d1, d2] => { results := [.lit (.bool false)], args := [d1, d2] }
  | _ => none }
def PikeClassWrongFalsely : Prop := pikeClassRow.holds Try.pinned (OpenSpec.ofChange pikeClassWrong)

/-- 'caliperlaw11.PikeSteps': WHATEVER THE INPUT: true; the input reads as it did. -/
def pikeStepsSpec : ChangeSpec := { name := "pikeSteps", fn := fun _ => fun
  | [d1, d2] => { results := [.lit (.bool true)], args := [d1, d2] }
  | _ => none }
def pikeStepsRow : OpenClaim := { program := "ytjnfkifdgojdaaa", sum := "1a177da01b42e4ad3b25db7bd8329f33430d5e061997aba5be7bc4253327878b", func := "caliper/caliperlaw11.PikeSteps", spec := "pikeSteps", inPlace := ["internal/bytealg.IndexByteString"], unfollowed := true, recurses := true, apart := false }
def PikeStepsSaid : Prop := pikeStepsRow.holds Try.pinned (OpenSpec.ofChange pikeStepsSpec)

/-- ITS FALSE NEIGHBOUR: 'it returns false'. Refute it at one input. -/
def pikeStepsWrong : ChangeSpec := { name := "pikeSteps", fn := fun _ => fun
  | [d1, d2] => { results := [.lit (.bool false)], args := [d1, d2] }
  | _ => none }
def PikeStepsWrongFalsely : Prop := pikeStepsRow.holds Try.pinned (OpenSpec.ofChange pikeStepsWrong)

/-- 'caliperlaw11.PikeWithin': WHATEVER THE INPUT: true; the input reads as it did. -/
def pikeWithinSpec : ChangeSpec := { name := "pikeWithin", fn := fun _ => fun
  | [d1, d2] => { results := [.lit (.bool true)], args := [d1, d2] }
  | _ => none }
def pikeWithinRow : OpenClaim := { program := "ytjnfkifdgojdaaa", sum := "1a177da01b42e4ad3b25db7bd8329f33430d5e061997aba5be7bc4253327878b", func := "caliper/caliperlaw11.PikeWithin", spec := "pikeWithin", inPlace := ["internal/bytealg.IndexByteString"], unfollowed := true, recurses := true, loops := true, apart := false }
def PikeWithinSaid : Prop := pikeWithinRow.holds Try.pinned (OpenSpec.ofChange pikeWithinSpec)

/-- ITS FALSE NEIGHBOUR: 'it returns false'. Refute it at one input. -/
def pikeWithinWrong : ChangeSpec := { name := "pikeWithin", fn := fun _ => fun
  | [d1, d2] => { results := [.lit (.bool false)], args := [d1, d2] }
  | _ => none }
def PikeWithinWrongFalsely : Prop := pikeWithinRow.holds Try.pinned (OpenSpec.ofChange pikeWithinWrong)

/-- 'caliperlaw11.PikeParts': WHATEVER THE INPUT: true; the input reads as it did. -/
def pikePartsSpec : ChangeSpec := { name := "pikeParts", fn := fun _ => fun
  | [d1, d2, d3] => { results := [.lit (.bool true)], args := [d1, d2, d3] }
  | _ => none }
def pikePartsRow : OpenClaim := { program := "ytjnfkifdgojdaaa", sum := "1a177da01b42e4ad3b25db7bd8329f33430d5e061997aba5be7bc4253327878b", func := "caliper/caliperlaw11.PikeParts", spec := "pikeParts", inPlace := ["internal/bytealg.IndexByteString"], unfollowed := true, recurses := true, loops := true, apart := false }
def PikePartsSaid : Prop := pikePartsRow.holds Try.pinned (OpenSpec.ofChange pikePartsSpec)

/-- ITS FALSE NEIGHBOUR: 'it returns false'. Refute it at one input. -/
def pikePartsWrong : ChangeSpec := { name := "pikeParts", fn := fun _ => fun
  | [d1, d2, d3] => { results := [.lit (.bool false)], args := [d1, d2, d3] }
  | _ => none }
def PikePartsWrongFalsely : Prop := pikePartsRow.holds Try.pinned (OpenSpec.ofChange pikePartsWrong)

/- THE SECOND FORM. 'bulk': how many values and letters a reading holds, each counted each time it is reached (what is shared counts as often as it is met; a slice's spare places count too). A statement '..UptoSaid' is the law's where the arguments, and the package variables that the reading takes, are together of bulk at most 1048576: NARROWER than '..Said'. Prove '..Said' where nothing that the law and all that it calls make is longer than what came in: it says more and counts as full. Else prove '..UptoSaid'. A law counts once. -/
mutual
def uptoBulk {H : Type} : DataW H → Nat
  | .lit (.string bytes) => bytes.length + 1
  | .lit _ => 1
  | .nil => 1
  | .ptr d => uptoBulk d + 1
  | .slice elems spare => uptoBulkAll elems + uptoBulkAll spare + 1
  | .agg parts => uptoBulkAll parts + 1
  | .iface _ d => uptoBulk d + 1
  | .map entries => uptoBulkEntries entries + 1
  | .held _ => 1
def uptoBulkAll {H : Type} : List (DataW H) → Nat
  | [] => 0
  | d :: r => uptoBulk d + uptoBulkAll r
def uptoBulkEntries {H : Type} : List (Lit × DataW H) → Nat
  | [] => 0
  | x :: r => uptoBulkEntry x + uptoBulkEntries r
def uptoBulkEntry {H : Type} : Lit × DataW H → Nat
  | (.string bytes, d) => bytes.length + uptoBulk d + 1
  | (_, d) => uptoBulk d + 1
 end
def uptoSmall : (H : Type) → List (DataW H) → Bool := fun _ ds => decide (uptoBulkAll ds ≤ 1048576)
def OpenSpec.upto (s : _root_.Go.ChangeSpec) : _root_.Go.OpenSpec := { _root_.Go.OpenSpec.ofChange s with cond := some uptoSmall }

/-- 'caliperlaw11.PikeClass', WHERE WHAT IT READS IS OF BULK AT MOST 1048576: true; the input reads as it did. -/
def pikeClassUptoRow : OpenClaim := { program := "ytjnfkifdgojdaaa", sum := "1a177da01b42e4ad3b25db7bd8329f33430d5e061997aba5be7bc4253327878b", func := "caliper/caliperlaw11.PikeClass", spec := "pikeClass", inPlace := ["internal/bytealg.IndexByteString"], unfollowed := true, recurses := true, apart := false, narrowed := true }
def PikeClassUptoSaid : Prop := pikeClassUptoRow.holds Try.pinned (OpenSpec.upto pikeClassSpec)

/-- 'caliperlaw11.PikeSteps', WHERE WHAT IT READS IS OF BULK AT MOST 1048576: true; the input reads as it did. -/
def pikeStepsUptoRow : OpenClaim := { program := "ytjnfkifdgojdaaa", sum := "1a177da01b42e4ad3b25db7bd8329f33430d5e061997aba5be7bc4253327878b", func := "caliper/caliperlaw11.PikeSteps", spec := "pikeSteps", inPlace := ["internal/bytealg.IndexByteString"], unfollowed := true, recurses := true, apart := false, narrowed := true }
def PikeStepsUptoSaid : Prop := pikeStepsUptoRow.holds Try.pinned (OpenSpec.upto pikeStepsSpec)

/-- 'caliperlaw11.PikeWithin', WHERE WHAT IT READS IS OF BULK AT MOST 1048576: true; the input reads as it did. -/
def pikeWithinUptoRow : OpenClaim := { program := "ytjnfkifdgojdaaa", sum := "1a177da01b42e4ad3b25db7bd8329f33430d5e061997aba5be7bc4253327878b", func := "caliper/caliperlaw11.PikeWithin", spec := "pikeWithin", inPlace := ["internal/bytealg.IndexByteString"], unfollowed := true, recurses := true, loops := true, apart := false, narrowed := true }
def PikeWithinUptoSaid : Prop := pikeWithinUptoRow.holds Try.pinned (OpenSpec.upto pikeWithinSpec)

/-- 'caliperlaw11.PikeParts', WHERE WHAT IT READS IS OF BULK AT MOST 1048576: true; the input reads as it did. -/
def pikePartsUptoRow : OpenClaim := { program := "ytjnfkifdgojdaaa", sum := "1a177da01b42e4ad3b25db7bd8329f33430d5e061997aba5be7bc4253327878b", func := "caliper/caliperlaw11.PikeParts", spec := "pikeParts", inPlace := ["internal/bytealg.IndexByteString"], unfollowed := true, recurses := true, loops := true, apart := false, narrowed := true }
def PikePartsUptoSaid : Prop := pikePartsUptoRow.holds Try.pinned (OpenSpec.upto pikePartsSpec)

end Rows
end Go.Proofs.Ytjnfkifdgojdaaa
