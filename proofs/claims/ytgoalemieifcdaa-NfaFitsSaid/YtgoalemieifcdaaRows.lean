/-
  NARROWER THAN 'FOR EVERY INPUT', by the rows' own cells (each row's printed sentence says how): NfaFits: loops · NfaWrites: loops · NfaGrows: loops.
  DERIVED. THE GIVEN ROWS OF THIS SEAT. 4 by the template 'for every input the law returns true; each argument reads behind the call as it read before'; 0 by the template 'total and deterministic' (their statements: YtgoalemieifcdaaTotals.lean).
  GIVEN WITH THE SEED: the statements are not yours to turn. If you find one false, say at which input.
  Laid BY PROGRAM, IN A SANDBOX (cutbox-rows.mjs): the forced cells as the released guide's own fill.sh prints them over the translation e054f4238fb8cf12… (all of the seat's roots in one cut). By AI agents, Wed Nov 11 2026. No macro, syntax, notation, axiom, sorry.
-/
import Derived.Test.YtgoalemieifcdaaChecked
import GoSem.Claim
import GoSem.ClaimJoined
import GoSem.ClaimMapViews
import Derived.JoinedTies
import Derived.KernelRfl
namespace Go.Proofs.Ytgoalemieifcdaa
/- THE CELL 'sum', in the pinned program and in every row, IS THE sha256 OF THE DUMP (.gsa) THAT YtgoalemieifcdaaProg.lean LOADS. Nothing in Lean hashes anything: it is a label: what it is worth is what the hold of that sum in a sandbox is worth. -/
noncomputable def Try.pinned : Pinned := { name := "ytgoalemieifcdaa", sum := "e054f4238fb8cf122a62cb25462e1280c5f5c445d2012882f776d972cbf7348f", checked := Try.checked }
namespace Rows
def none {H : Type} : Left H := { results := [], args := [] }

/-- 'caliperlaw10.NfaChecks': WHATEVER THE INPUT: true; the input reads as it did. -/
def nfaChecksSpec : ChangeSpec := { name := "nfaChecks", fn := fun _ => fun
  | [d] => { results := [.lit (.bool true)], args := [d] }
  | _ => none }
def nfaChecksRow : OpenClaim := { program := "ytgoalemieifcdaa", sum := "e054f4238fb8cf122a62cb25462e1280c5f5c445d2012882f776d972cbf7348f", func := "caliper/caliperlaw10.NfaChecks", spec := "nfaChecks", unfollowed := true, recurses := true, apart := false }
def NfaChecksSaid : Prop := nfaChecksRow.holds Try.pinned (OpenSpec.ofChange nfaChecksSpec)

/-- ITS FALSE NEIGHBOUR: 'it returns false'. Refute it at one input. -/
def nfaChecksWrong : ChangeSpec := { name := "nfaChecks", fn := fun _ => fun
  | [d] => { results := [.lit (.bool false)], args := [d] }
  | _ => none }
def NfaChecksWrongFalsely : Prop := nfaChecksRow.holds Try.pinned (OpenSpec.ofChange nfaChecksWrong)

/-- 'caliperlaw10.NfaFits': WHATEVER THE INPUT: true; the input reads as it did. -/
def nfaFitsSpec : ChangeSpec := { name := "nfaFits", fn := fun _ => fun
  | [d1, d2] => { results := [.lit (.bool true)], args := [d1, d2] }
  | _ => none }
def nfaFitsRow : OpenClaim := { program := "ytgoalemieifcdaa", sum := "e054f4238fb8cf122a62cb25462e1280c5f5c445d2012882f776d972cbf7348f", func := "caliper/caliperlaw10.NfaFits", spec := "nfaFits", unfollowed := true, recurses := true, loops := true, apart := false }
def NfaFitsSaid : Prop := nfaFitsRow.holds Try.pinned (OpenSpec.ofChange nfaFitsSpec)

/-- ITS FALSE NEIGHBOUR: 'it returns false'. Refute it at one input. -/
def nfaFitsWrong : ChangeSpec := { name := "nfaFits", fn := fun _ => fun
  | [d1, d2] => { results := [.lit (.bool false)], args := [d1, d2] }
  | _ => none }
def NfaFitsWrongFalsely : Prop := nfaFitsRow.holds Try.pinned (OpenSpec.ofChange nfaFitsWrong)

/-- 'caliperlaw10.NfaWrites': WHATEVER THE INPUT: true; the input reads as it did. -/
def nfaWritesSpec : ChangeSpec := { name := "nfaWrites", fn := fun _ => fun
  | [d1, d2] => { results := [.lit (.bool true)], args := [d1, d2] }
  | _ => none }
def nfaWritesRow : OpenClaim := { program := "ytgoalemieifcdaa", sum := "e054f4238fb8cf122a62cb25462e1280c5f5c445d2012882f776d972cbf7348f", func := "caliper/caliperlaw10.NfaWrites", spec := "nfaWrites", unfollowed := true, recurses := true, loops := true, apart := false }
def NfaWritesSaid : Prop := nfaWritesRow.holds Try.pinned (OpenSpec.ofChange nfaWritesSpec)

/-- ITS FALSE NEIGHBOUR: 'it returns false'. Refute it at one input. -/
def nfaWritesWrong : ChangeSpec := { name := "nfaWrites", fn := fun _ => fun
  | [d1, d2] => { results := [.lit (.bool false)], args := [d1, d2] }
  | _ => none }
def NfaWritesWrongFalsely : Prop := nfaWritesRow.holds Try.pinned (OpenSpec.ofChange nfaWritesWrong)

/-- 'caliperlaw10.NfaGrows': WHATEVER THE INPUT: true; the input reads as it did. -/
def nfaGrowsSpec : ChangeSpec := { name := "nfaGrows", fn := fun _ => fun
  | [d1, d2, d3] => { results := [.lit (.bool true)], args := [d1, d2, d3] }
  | _ => none }
def nfaGrowsRow : OpenClaim := { program := "ytgoalemieifcdaa", sum := "e054f4238fb8cf122a62cb25462e1280c5f5c445d2012882f776d972cbf7348f", func := "caliper/caliperlaw10.NfaGrows", spec := "nfaGrows", unfollowed := true, recurses := true, loops := true, apart := false }
def NfaGrowsSaid : Prop := nfaGrowsRow.holds Try.pinned (OpenSpec.ofChange nfaGrowsSpec)

/-- ITS FALSE NEIGHBOUR: 'it returns false'. Refute it at one input. -/
def nfaGrowsWrong : ChangeSpec := { name := "nfaGrows", fn := fun _ => fun
  | [d1, d2, d3] => { results := [.lit (.bool false)], args := [d1, d2, d3] }
  | _ => none }
def NfaGrowsWrongFalsely : Prop := nfaGrowsRow.holds Try.pinned (OpenSpec.ofChange nfaGrowsWrong)

/- THE SECOND FORM. 'bulk': how many values and letters a reading holds, each counted each time it is reached (what is shared counts as often as it is met; a slice's spare places count too). A statement '..UptoSaid' is the law's where the arguments, and the package variables that the reading takes, are together of bulk at most 1048576: NARROWER than '..Said'. Prove '..Said' where nothing that the law and all that it calls make is longer than what came in: it says more and counts as full. Else prove '..UptoSaid'. A law counts once. -/
mutual
def uptoBulk {H : Type} : DataW H → Nat
  | .lit (.string bytes) => bytes.length + 1
  | .lit _ => 1
  | .nil => 1
  | .ptr d => uptoBulk d + 1
  | .slice elems spare => uptoBulkAll elems + uptoBulkAll spare + 1
  | .agg parts => uptoBulkAll parts + 1
  | .iface _ d => uptoBulk d + 1
  | .map entries => uptoBulkEntries entries + 1
  | .held _ => 1
def uptoBulkAll {H : Type} : List (DataW H) → Nat
  | [] => 0
  | d :: r => uptoBulk d + uptoBulkAll r
def uptoBulkEntries {H : Type} : List (Lit × DataW H) → Nat
  | [] => 0
  | x :: r => uptoBulkEntry x + uptoBulkEntries r
def uptoBulkEntry {H : Type} : Lit × DataW H → Nat
  | (.string bytes, d) => bytes.length + uptoBulk d + 1
  | (_, d) => uptoBulk d + 1
 end
def uptoSmall : (H : Type) → List (DataW H) → Bool := fun _ ds => decide (uptoBulkAll ds ≤ 1048576)
def OpenSpec.upto (s : _root_.Go.ChangeSpec) : _root_.Go.OpenSpec := { _root_.Go.OpenSpec.ofChange s with cond := some uptoSmall }

/-- 'caliperlaw10.NfaChecks', WHERE WHAT IT READS IS OF BULK AT MOST 1048576: true; the input reads as it did. -/
def nfaChecksUptoRow : OpenClaim := { program := "ytgoalemieifcdaa", sum := "e054f4238fb8cf122a62cb25462e1280c5f5c445d2012882f776d972cbf7348f", func := "caliper/caliperlaw10.NfaChecks", spec := "nfaChecks", unfollowed := true, recurses := true, apart := false, narrowed := true }
def NfaChecksUptoSaid : Prop := nfaChecksUptoRow.holds Try.pinned (OpenSpec.upto nfaChecksSpec)

/-- 'caliperlaw10.NfaFits', WHERE WHAT IT READS IS OF BULK AT MOST 1048576: true; the input reads as it did. -/
def nfaFitsUptoRow : OpenClaim := { program := "ytgoalemieifcdaa", sum := "e054f4238fb8cf122a62cb25462e1280c5f5c445d2012882f776d972cbf7348f", func := "caliper/caliperlaw10.NfaFits", spec := "nfaFits", unfollowed := true, recurses := true, loops := true, apart := false, narrowed := true }
def NfaFitsUptoSaid : Prop := nfaFitsUptoRow.holds Try.pinned (OpenSpec.upto nfaFitsSpec)

/-- 'caliperlaw10.NfaWrites', WHERE WHAT IT READS IS OF BULK AT MOST 1048576: true; the input reads as it did. -/
def nfaWritesUptoRow : OpenClaim := { program := "ytgoalemieifcdaa", sum := "e054f4238fb8cf122a62cb25462e1280c5f5c445d2012882f776d972cbf7348f", func := "caliper/caliperlaw10.NfaWrites", spec := "nfaWrites", unfollowed := true, recurses := true, loops := true, apart := false, narrowed := true }
def NfaWritesUptoSaid : Prop := nfaWritesUptoRow.holds Try.pinned (OpenSpec.upto nfaWritesSpec)

/-- 'caliperlaw10.NfaGrows', WHERE WHAT IT READS IS OF BULK AT MOST 1048576: true; the input reads as it did. -/
def nfaGrowsUptoRow : OpenClaim := { program := "ytgoalemieifcdaa", sum := "e054f4238fb8cf122a62cb25462e1280c5f5c445d2012882f776d972cbf7348f", func := "caliper/caliperlaw10.NfaGrows", spec := "nfaGrows", unfollowed := true, recurses := true, loops := true, apart := false, narrowed := true }
def NfaGrowsUptoSaid : Prop := nfaGrowsUptoRow.holds Try.pinned (OpenSpec.upto nfaGrowsSpec)

end Rows
end Go.Proofs.Ytgoalemieifcdaa
