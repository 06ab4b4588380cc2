/-
  No cell of these rows narrows 'for every input' (looked for: loops, veiled, ifaces, maps, wideKeys, modest, calm, conditions, laid).
  DERIVED. THE GIVEN ROWS OF THIS SEAT. 3 by the template 'for every input the law returns true; each argument reads behind the call as it read before'; 0 by the template 'total and deterministic' (their statements: YtpghocjfmddpkaaTotals.lean).
  GIVEN WITH THE SEED: the statements are not yours to turn. If you find one false, say at which input.
  Laid BY PROGRAM, IN A SANDBOX (cutbox-rows.mjs): the forced cells as the released guide's own fill.sh prints them over the translation d32b0cfd14d307d4… (all of the seat's roots in one cut). By AI agents, Wed Nov 11 2026. No macro, syntax, notation, axiom, sorry.
-/
import Derived.Test.YtpghocjfmddpkaaChecked
import GoSem.Claim
import GoSem.ClaimJoined
import GoSem.ClaimMapViews
import Derived.JoinedTies
import Derived.KernelRfl
namespace Go.Proofs.Ytpghocjfmddpkaa
/- THE CELL 'sum', in the pinned program and in every row, IS THE sha256 OF THE DUMP (.gsa) THAT YtpghocjfmddpkaaProg.lean LOADS. Nothing in Lean hashes anything: it is a label: what it is worth is what the hold of that sum in a sandbox is worth. -/
noncomputable def Try.pinned : Pinned := { name := "ytpghocjfmddpkaa", sum := "d32b0cfd14d307d4029a54dc08997813c8e0f6294dbbfa60233e563bdf809c6e", checked := Try.checked }
namespace Rows
def none {H : Type} : Left H := { results := [], args := [] }

/-- 'caliperlaw09.RxSets': WHATEVER THE INPUT: true; the input reads as it did. -/
def rxSetsSpec : ChangeSpec := { name := "rxSets", fn := fun _ => fun
  | [d] => { results := [.lit (.bool true)], args := [d] }
  | _ => none }
def rxSetsRow : OpenClaim := { program := "ytpghocjfmddpkaa", sum := "d32b0cfd14d307d4029a54dc08997813c8e0f6294dbbfa60233e563bdf809c6e", func := "caliper/caliperlaw09.RxSets", spec := "rxSets", inPlace := ["internal/bytealg.IndexByteString"], unfollowed := true, recurses := true, apart := false }
def RxSetsSaid : Prop := rxSetsRow.holds Try.pinned (OpenSpec.ofChange rxSetsSpec)

/-- ITS FALSE NEIGHBOUR: 'it returns false'. Refute it at one input. -/
def rxSetsWrong : ChangeSpec := { name := "rxSets", fn := fun _ => fun
  | [d] => { results := [.lit (.bool false)], args := [d] }
  | _ => none }
def RxSetsWrongFalsely : Prop := rxSetsRow.holds Try.pinned (OpenSpec.ofChange rxSetsWrong)

/-- 'caliperlaw09.RxIn': WHATEVER THE INPUT: true; the input reads as it did. -/
def rxInSpec : ChangeSpec := { name := "rxIn", fn := fun _ => fun
  | [d1, d2] => { results := [.lit (.bool true)], args := [d1, d2] }
  | _ => none }
def rxInRow : OpenClaim := { program := "ytpghocjfmddpkaa", sum := "d32b0cfd14d307d4029a54dc08997813c8e0f6294dbbfa60233e563bdf809c6e", func := "caliper/caliperlaw09.RxIn", spec := "rxIn", inPlace := ["internal/bytealg.IndexByteString"], unfollowed := true, recurses := true, apart := false }
def RxInSaid : Prop := rxInRow.holds Try.pinned (OpenSpec.ofChange rxInSpec)

/-- ITS FALSE NEIGHBOUR: 'it returns false'. Refute it at one input. -/
def rxInWrong : ChangeSpec := { name := "rxIn", fn := fun _ => fun
  | [d1, d2] => { results := [.lit (.bool false)], args := [d1, d2] }
  | _ => none }
def RxInWrongFalsely : Prop := rxInRow.holds Try.pinned (OpenSpec.ofChange rxInWrong)

/-- 'caliperlaw09.RxGroups': WHATEVER THE INPUT: true; the input reads as it did. -/
def rxGroupsSpec : ChangeSpec := { name := "rxGroups", fn := fun _ => fun
  | [d1, d2] => { results := [.lit (.bool true)], args := [d1, d2] }
  | _ => none }
def rxGroupsRow : OpenClaim := { program := "ytpghocjfmddpkaa", sum := "d32b0cfd14d307d4029a54dc08997813c8e0f6294dbbfa60233e563bdf809c6e", func := "caliper/caliperlaw09.RxGroups", spec := "rxGroups", inPlace := ["internal/bytealg.IndexByteString"], unfollowed := true, recurses := true, apart := false }
def RxGroupsSaid : Prop := rxGroupsRow.holds Try.pinned (OpenSpec.ofChange rxGroupsSpec)

/-- ITS FALSE NEIGHBOUR: 'it returns false'. Refute it at one input. -/
def rxGroupsWrong : ChangeSpec := { name := "rxGroups", fn := fun _ => fun
  | [d1, d2] => { results := [.lit (.bool false)], args := [d1, d2] }
  | _ => none }
def RxGroupsWrongFalsely : Prop := rxGroupsRow.holds Try.pinned (OpenSpec.ofChange rxGroupsWrong)

/- THE SECOND FORM. 'bulk': how many values and letters a reading holds, each counted each time it is reached (what is shared counts as often as it is met; a slice's spare places count too). A statement '..UptoSaid' is the law's where the arguments, and the package variables that the reading takes, are together of bulk at most 1048576: NARROWER than '..Said'. Prove '..Said' where nothing that the law and all that it calls make is longer than what came in: it says more and counts as full. Else prove '..UptoSaid'. A law counts once. -/
mutual
def uptoBulk {H : Type} : DataW H → Nat
  | .lit (.string bytes) => bytes.length + 1
  | .lit _ => 1
  | .nil => 1
  | .ptr d => uptoBulk d + 1
  | .slice elems spare => uptoBulkAll elems + uptoBulkAll spare + 1
  | .agg parts => uptoBulkAll parts + 1
  | .iface _ d => uptoBulk d + 1
  | .map entries => uptoBulkEntries entries + 1
  | .held _ => 1
def uptoBulkAll {H : Type} : List (DataW H) → Nat
  | [] => 0
  | d :: r => uptoBulk d + uptoBulkAll r
def uptoBulkEntries {H : Type} : List (Lit × DataW H) → Nat
  | [] => 0
  | x :: r => uptoBulkEntry x + uptoBulkEntries r
def uptoBulkEntry {H : Type} : Lit × DataW H → Nat
  | (.string bytes, d) => bytes.length + uptoBulk d + 1
  | (_, d) => uptoBulk d + 1
 end
def uptoSmall : (H : Type) → List (DataW H) → Bool := fun _ ds => decide (uptoBulkAll ds ≤ 1048576)
def OpenSpec.upto (s : _root_.Go.ChangeSpec) : _root_.Go.OpenSpec := { _root_.Go.OpenSpec.ofChange s with cond := some uptoSmall }

/-- 'caliperlaw09.RxSets', WHERE WHAT IT READS IS OF BULK AT MOST 1048576: true; the input reads as it did. -/
def rxSetsUptoRow : OpenClaim := { program := "ytpghocjfmddpkaa", sum := "d32b0cfd14d307d4029a54dc08997813c8e0f6294dbbfa60233e563bdf809c6e", func := "caliper/caliperlaw09.RxSets", spec := "rxSets", inPlace := ["internal/bytealg.IndexByteString"], unfollowed := true, recurses := true, apart := false, narrowed := true }
def RxSetsUptoSaid : Prop := rxSetsUptoRow.holds Try.pinned (OpenSpec.upto rxSetsSpec)

/-- 'caliperlaw09.RxIn', WHERE WHAT IT READS IS OF BULK AT MOST 1048576: true; the input reads as it did. -/
def rxInUptoRow : OpenClaim := { program := "ytpghocjfmddpkaa", sum := "d32b0cfd14d307d4029a54dc08997813c8e0f6294dbbfa60233e563bdf809c6e", func := "caliper/caliperlaw09.RxIn", spec := "rxIn", inPlace := ["internal/bytealg.IndexByteString"], unfollowed := true, recurses := true, apart := false, narrowed := true }
def RxInUptoSaid : Prop := rxInUptoRow.holds Try.pinned (OpenSpec.upto rxInSpec)

/-- 'caliperlaw09.RxGroups', WHERE WHAT IT READS IS OF BULK AT MOST 1048576: true; the input reads as it did. -/
def rxGroupsUptoRow : OpenClaim := { program := "ytpghocjfmddpkaa", sum := "d32b0cfd14d307d4029a54dc08997813c8e0f6294dbbfa60233e563bdf809c6e", func := "caliper/caliperlaw09.RxGroups", spec := "rxGroups", inPlace := ["internal/bytealg.IndexByteString"], unfollowed := true, recurses := true, apart := false, narrowed := true }
def RxGroupsUptoSaid : Prop := rxGroupsUptoRow.holds Try.pinned (OpenSpec.upto rxGroupsSpec)

end Rows
end Go.Proofs.Ytpghocjfmddpkaa
