/-
  NARROWER THAN 'FOR EVERY INPUT', by the rows' own cells (each row's printed sentence says how): PlainSimplifies: loops, laid · PlainForms: loops, laid · PlainEnds: loops, laid · PlainStays: loops, laid · PlainSame: loops, laid.
  DERIVED. THE GIVEN ROWS OF THIS SEAT. 5 by the template 'for every input the law returns true; each argument reads behind the call as it read before'; 0 by the template 'total and deterministic' (their statements: YtpfbeeikgbijoaaGreatDoorTotals.lean).
  GIVEN WITH THE SEED: the statements are not yours to turn. If you find one false, say at which input.
  Laid BY PROGRAM, IN A SANDBOX (cutbox-rows.mjs): the forced cells as the released guide's own fill.sh prints them over the translation d8413f62c55d7e88… (all of the seat's roots in one cut). By AI agents, Wed Nov 11 2026. No macro, syntax, notation, axiom, sorry.
-/
import Derived.Test.YtpfbeeikgbijoaaGreatDoorChecked
import GoSem.PinnedTables
import GoSem.Claim
import GoSem.ClaimJoined
import GoSem.ClaimMapViews
import Derived.JoinedTies
import Derived.KernelRfl
namespace Go.Proofs.YtpfbeeikgbijoaaGreatDoor
/- THE CELL 'sum', in the pinned program and in every row, IS THE sha256 OF THE DUMP (.gsa) THAT YtpfbeeikgbijoaaGreatDoorProg.lean LOADS. Nothing in Lean hashes anything: it is a label: what it is worth is what the hold of that sum in a sandbox is worth. -/
noncomputable def Tryz.pinned : Pinned := { name := "ytpfbeeikgbijoaagreatdoor", sum := "d8413f62c55d7e88fdf6b2f3fca6784d60fc405fcaf72d36b15721521790540e", checked := Tryz.checked }
namespace Rows
def none {H : Type} : Left H := { results := [], args := [] }

/- WHAT THE LISTED PACKAGE-LEVEL VARIABLES READ AS WHEN THE CALL BEGINS. Each datum BY PROGRAM (the guide's laid-datum.mjs) off the statement by which the dump's own 'gosem.cut.vars' lays the variable. In a bare row this is a premise. The card (YtpfbeeikgbijoaaGreatDoorCards.lean) ties it to the program's text. -/
def laid_unicode_utf8_acceptRanges {H : Type} : DataW H := .agg [.agg [.lit (.int .u8 128), .lit (.int .u8 191)], .agg [.lit (.int .u8 160), .lit (.int .u8 191)], .agg [.lit (.int .u8 128), .lit (.int .u8 159)], .agg [.lit (.int .u8 144), .lit (.int .u8 191)], .agg [.lit (.int .u8 128), .lit (.int .u8 143)], .agg [.lit (.int .u8 0), .lit (.int .u8 0)], .agg [.lit (.int .u8 0), .lit (.int .u8 0)], .agg [.lit (.int .u8 0), .lit (.int .u8 0)], .agg [.lit (.int .u8 0), .lit (.int .u8 0)], .agg [.lit (.int .u8 0), .lit (.int .u8 0)], .agg [.lit (.int .u8 0), .lit (.int .u8 0)], .agg [.lit (.int .u8 0), .lit (.int .u8 0)], .agg [.lit (.int .u8 0), .lit (.int .u8 0)], .agg [.lit (.int .u8 0), .lit (.int .u8 0)], .agg [.lit (.int .u8 0), .lit (.int .u8 0)], .agg [.lit (.int .u8 0), .lit (.int .u8 0)]]
/-- One of Go's own tables, pinned by name: the form's constant. -/
def laid_unicode_utf8_first : DataW Unit := Go.Pinned.utf8First

/-- 'caliperlaw17.PlainSimplifies': WHATEVER THE INPUT: true; the input reads as it did. -/
def plainSimplifiesSpec : ChangeSpec := { name := "plainSimplifies", fn := fun _ => fun
  | [d] => { results := [.lit (.bool true)], args := [d] }
  | _ => none }
def plainSimplifiesRow : OpenClaim := { program := "ytpfbeeikgbijoaagreatdoor", sum := "d8413f62c55d7e88fdf6b2f3fca6784d60fc405fcaf72d36b15721521790540e", func := "caliper/caliperlaw17.PlainSimplifies", spec := "plainSimplifies", inPlace := ["internal/bytealg.IndexByteString", "internal/bytealg.IndexString"], unfollowed := true, recurses := true, named := ["unicode/utf8.first", "unicode/utf8.acceptRanges", "internal/bytealg.MaxLen"], loops := true, plainKeys := false, apart := false, laid := [("unicode/utf8.acceptRanges", laid_unicode_utf8_acceptRanges), ("unicode/utf8.first", laid_unicode_utf8_first)] }
def PlainSimplifiesSaid : Prop := plainSimplifiesRow.holds Tryz.pinned (OpenSpec.ofChange plainSimplifiesSpec)

/-- ITS FALSE NEIGHBOUR: 'it returns false'. Refute it at one input. -/
def plainSimplifiesWrong : ChangeSpec := { name := "plainSimplifies", fn := fun _ => fun
  | [d] => { results := [.lit (.bool false)], args := [d] }
  | _ => none }
def PlainSimplifiesWrongFalsely : Prop := plainSimplifiesRow.holds Tryz.pinned (OpenSpec.ofChange plainSimplifiesWrong)

/-- 'caliperlaw17.PlainForms': WHATEVER THE INPUT: true; the input reads as it did. -/
def plainFormsSpec : ChangeSpec := { name := "plainForms", fn := fun _ => fun
  | [d] => { results := [.lit (.bool true)], args := [d] }
  | _ => none }
def plainFormsRow : OpenClaim := { program := "ytpfbeeikgbijoaagreatdoor", sum := "d8413f62c55d7e88fdf6b2f3fca6784d60fc405fcaf72d36b15721521790540e", func := "caliper/caliperlaw17.PlainForms", spec := "plainForms", inPlace := ["internal/bytealg.IndexByteString", "internal/bytealg.IndexString"], unfollowed := true, recurses := true, named := ["unicode/utf8.first", "unicode/utf8.acceptRanges", "internal/bytealg.MaxLen"], loops := true, plainKeys := false, apart := false, laid := [("unicode/utf8.acceptRanges", laid_unicode_utf8_acceptRanges), ("unicode/utf8.first", laid_unicode_utf8_first)] }
def PlainFormsSaid : Prop := plainFormsRow.holds Tryz.pinned (OpenSpec.ofChange plainFormsSpec)

/-- ITS FALSE NEIGHBOUR: 'it returns false'. Refute it at one input. -/
def plainFormsWrong : ChangeSpec := { name := "plainForms", fn := fun _ => fun
  | [d] => { results := [.lit (.bool false)], args := [d] }
  | _ => none }
def PlainFormsWrongFalsely : Prop := plainFormsRow.holds Tryz.pinned (OpenSpec.ofChange plainFormsWrong)

/-- 'caliperlaw17.PlainEnds': WHATEVER THE INPUT: true; the input reads as it did. -/
def plainEndsSpec : ChangeSpec := { name := "plainEnds", fn := fun _ => fun
  | [d] => { results := [.lit (.bool true)], args := [d] }
  | _ => none }
def plainEndsRow : OpenClaim := { program := "ytpfbeeikgbijoaagreatdoor", sum := "d8413f62c55d7e88fdf6b2f3fca6784d60fc405fcaf72d36b15721521790540e", func := "caliper/caliperlaw17.PlainEnds", spec := "plainEnds", inPlace := ["internal/bytealg.IndexByteString", "internal/bytealg.IndexString"], unfollowed := true, recurses := true, named := ["unicode/utf8.first", "unicode/utf8.acceptRanges", "internal/bytealg.MaxLen"], loops := true, plainKeys := false, apart := false, laid := [("unicode/utf8.acceptRanges", laid_unicode_utf8_acceptRanges), ("unicode/utf8.first", laid_unicode_utf8_first)] }
def PlainEndsSaid : Prop := plainEndsRow.holds Tryz.pinned (OpenSpec.ofChange plainEndsSpec)

/-- ITS FALSE NEIGHBOUR: 'it returns false'. Refute it at one input. -/
def plainEndsWrong : ChangeSpec := { name := "plainEnds", fn := fun _ => fun
  | [d] => { results := [.lit (.bool false)], args := [d] }
  | _ => none }
def PlainEndsWrongFalsely : Prop := plainEndsRow.holds Tryz.pinned (OpenSpec.ofChange plainEndsWrong)

/-- 'caliperlaw17.PlainStays': WHATEVER THE INPUT: true; the input reads as it did. -/
def plainStaysSpec : ChangeSpec := { name := "plainStays", fn := fun _ => fun
  | [d] => { results := [.lit (.bool true)], args := [d] }
  | _ => none }
def plainStaysRow : OpenClaim := { program := "ytpfbeeikgbijoaagreatdoor", sum := "d8413f62c55d7e88fdf6b2f3fca6784d60fc405fcaf72d36b15721521790540e", func := "caliper/caliperlaw17.PlainStays", spec := "plainStays", inPlace := ["internal/bytealg.IndexByteString", "internal/bytealg.IndexString"], unfollowed := true, recurses := true, named := ["unicode/utf8.first", "unicode/utf8.acceptRanges", "internal/bytealg.MaxLen"], loops := true, plainKeys := false, apart := false, laid := [("unicode/utf8.acceptRanges", laid_unicode_utf8_acceptRanges), ("unicode/utf8.first", laid_unicode_utf8_first)] }
def PlainStaysSaid : Prop := plainStaysRow.holds Tryz.pinned (OpenSpec.ofChange plainStaysSpec)

/-- ITS FALSE NEIGHBOUR: 'it returns false'. Refute it at one input. -/
def plainStaysWrong : ChangeSpec := { name := "plainStays", fn := fun _ => fun
  | [d] => { results := [.lit (.bool false)], args := [d] }
  | _ => none }
def PlainStaysWrongFalsely : Prop := plainStaysRow.holds Tryz.pinned (OpenSpec.ofChange plainStaysWrong)

/-- 'caliperlaw17.PlainSame': WHATEVER THE INPUT: true; the input reads as it did. -/
def plainSameSpec : ChangeSpec := { name := "plainSame", fn := fun _ => fun
  | [d] => { results := [.lit (.bool true)], args := [d] }
  | _ => none }
def plainSameRow : OpenClaim := { program := "ytpfbeeikgbijoaagreatdoor", sum := "d8413f62c55d7e88fdf6b2f3fca6784d60fc405fcaf72d36b15721521790540e", func := "caliper/caliperlaw17.PlainSame", spec := "plainSame", inPlace := ["internal/bytealg.IndexByteString", "internal/bytealg.IndexString"], unfollowed := true, recurses := true, named := ["unicode/utf8.first", "unicode/utf8.acceptRanges", "internal/bytealg.MaxLen"], loops := true, plainKeys := false, apart := false, laid := [("unicode/utf8.acceptRanges", laid_unicode_utf8_acceptRanges), ("unicode/utf8.first", laid_unicode_utf8_first)] }
def PlainSameSaid : Prop := plainSameRow.holds Tryz.pinned (OpenSpec.ofChange plainSameSpec)

/-- ITS FALSE NEIGHBOUR: 'it returns false'. Refute it at one input. -/
def plainSameWrong : ChangeSpec := { name := "plainSame", fn := fun _ => fun
  | [d] => { results := [.lit (.bool false)], args := [d] }
  | _ => none }
def PlainSameWrongFalsely : Prop := plainSameRow.holds Tryz.pinned (OpenSpec.ofChange plainSameWrong)

/- THE SECOND FORM. 'bulk': how many values and letters a reading holds, each counted each time it is reached (what is shared counts as often as it is met; a slice's spare places count too). A statement '..UptoSaid' is the law's where the arguments, and the package variables that the reading takes, are together of bulk at most 1048576: NARROWER than '..Said'. Prove '..Said' where nothing that the law and all that it calls make is longer than what came in: it says more and counts as full. Else prove '..UptoSaid'. A law counts once. -/
mutual
def uptoBulk {H : Type} : DataW H → Nat
  | .lit (.string bytes) => bytes.length + 1
  | .lit _ => 1
  | .nil => 1
  | .ptr d => uptoBulk d + 1
  | .slice elems spare => uptoBulkAll elems + uptoBulkAll spare + 1
  | .agg parts => uptoBulkAll parts + 1
  | .iface _ d => uptoBulk d + 1
  | .map entries => uptoBulkEntries entries + 1
  | .held _ => 1
def uptoBulkAll {H : Type} : List (DataW H) → Nat
  | [] => 0
  | d :: r => uptoBulk d + uptoBulkAll r
def uptoBulkEntries {H : Type} : List (Lit × DataW H) → Nat
  | [] => 0
  | x :: r => uptoBulkEntry x + uptoBulkEntries r
def uptoBulkEntry {H : Type} : Lit × DataW H → Nat
  | (.string bytes, d) => bytes.length + uptoBulk d + 1
  | (_, d) => uptoBulk d + 1
 end
def uptoSmall : (H : Type) → List (DataW H) → Bool := fun _ ds => decide (uptoBulkAll ds ≤ 1048576)
def OpenSpec.upto (s : _root_.Go.ChangeSpec) : _root_.Go.OpenSpec := { _root_.Go.OpenSpec.ofChange s with cond := some uptoSmall }

/-- 'caliperlaw17.PlainSimplifies', WHERE WHAT IT READS IS OF BULK AT MOST 1048576: true; the input reads as it did. -/
def plainSimplifiesUptoRow : OpenClaim := { program := "ytpfbeeikgbijoaagreatdoor", sum := "d8413f62c55d7e88fdf6b2f3fca6784d60fc405fcaf72d36b15721521790540e", func := "caliper/caliperlaw17.PlainSimplifies", spec := "plainSimplifies", inPlace := ["internal/bytealg.IndexByteString", "internal/bytealg.IndexString"], unfollowed := true, recurses := true, named := ["unicode/utf8.first", "unicode/utf8.acceptRanges", "internal/bytealg.MaxLen"], loops := true, plainKeys := false, apart := false, laid := [("unicode/utf8.acceptRanges", laid_unicode_utf8_acceptRanges), ("unicode/utf8.first", laid_unicode_utf8_first)], narrowed := true }
def PlainSimplifiesUptoSaid : Prop := plainSimplifiesUptoRow.holds Tryz.pinned (OpenSpec.upto plainSimplifiesSpec)

/-- 'caliperlaw17.PlainForms', WHERE WHAT IT READS IS OF BULK AT MOST 1048576: true; the input reads as it did. -/
def plainFormsUptoRow : OpenClaim := { program := "ytpfbeeikgbijoaagreatdoor", sum := "d8413f62c55d7e88fdf6b2f3fca6784d60fc405fcaf72d36b15721521790540e", func := "caliper/caliperlaw17.PlainForms", spec := "plainForms", inPlace := ["internal/bytealg.IndexByteString", "internal/bytealg.IndexString"], unfollowed := true, recurses := true, named := ["unicode/utf8.first", "unicode/utf8.acceptRanges", "internal/bytealg.MaxLen"], loops := true, plainKeys := false, apart := false, laid := [("unicode/utf8.acceptRanges", laid_unicode_utf8_acceptRanges), ("unicode/utf8.first", laid_unicode_utf8_first)], narrowed := true }
def PlainFormsUptoSaid : Prop := plainFormsUptoRow.holds Tryz.pinned (OpenSpec.upto plainFormsSpec)

/-- 'caliperlaw17.PlainEnds', WHERE WHAT IT READS IS OF BULK AT MOST 1048576: true; the input reads as it did. -/
def plainEndsUptoRow : OpenClaim := { program := "ytpfbeeikgbijoaagreatdoor", sum := "d8413f62c55d7e88fdf6b2f3fca6784d60fc405fcaf72d36b15721521790540e", func := "caliper/caliperlaw17.PlainEnds", spec := "plainEnds", inPlace := ["internal/bytealg.IndexByteString", "internal/bytealg.IndexString"], unfollowed := true, recurses := true, named := ["unicode/utf8.first", "unicode/utf8.acceptRanges", "internal/bytealg.MaxLen"], loops := true, plainKeys := false, apart := false, laid := [("unicode/utf8.acceptRanges", laid_unicode_utf8_acceptRanges), ("unicode/utf8.first", laid_unicode_utf8_first)], narrowed := true }
def PlainEndsUptoSaid : Prop := plainEndsUptoRow.holds Tryz.pinned (OpenSpec.upto plainEndsSpec)

/-- 'caliperlaw17.PlainStays', WHERE WHAT IT READS IS OF BULK AT MOST 1048576: true; the input reads as it did. -/
def plainStaysUptoRow : OpenClaim := { program := "ytpfbeeikgbijoaagreatdoor", sum := "d8413f62c55d7e88fdf6b2f3fca6784d60fc405fcaf72d36b15721521790540e", func := "caliper/caliperlaw17.PlainStays", spec := "plainStays", inPlace := ["internal/bytealg.IndexByteString", "internal/bytealg.IndexString"], unfollowed := true, recurses := true, named := ["unicode/utf8.first", "unicode/utf8.acceptRanges", "internal/bytealg.MaxLen"], loops := true, plainKeys := false, apart := false, laid := [("unicode/utf8.acceptRanges", laid_unicode_utf8_acceptRanges), ("unicode/utf8.first", laid_unicode_utf8_first)], narrowed := true }
def PlainStaysUptoSaid : Prop := plainStaysUptoRow.holds Tryz.pinned (OpenSpec.upto plainStaysSpec)

/-- 'caliperlaw17.PlainSame', WHERE WHAT IT READS IS OF BULK AT MOST 1048576: true; the input reads as it did. -/
def plainSameUptoRow : OpenClaim := { program := "ytpfbeeikgbijoaagreatdoor", sum := "d8413f62c55d7e88fdf6b2f3fca6784d60fc405fcaf72d36b15721521790540e", func := "caliper/caliperlaw17.PlainSame", spec := "plainSame", inPlace := ["internal/bytealg.IndexByteString", "internal/bytealg.IndexString"], unfollowed := true, recurses := true, named := ["unicode/utf8.first", "unicode/utf8.acceptRanges", "internal/bytealg.MaxLen"], loops := true, plainKeys := false, apart := false, laid := [("unicode/utf8.acceptRanges", laid_unicode_utf8_acceptRanges), ("unicode/utf8.first", laid_unicode_utf8_first)], narrowed := true }
def PlainSameUptoSaid : Prop := plainSameUptoRow.holds Tryz.pinned (OpenSpec.upto plainSameSpec)

end Rows
end Go.Proofs.YtpfbeeikgbijoaaGreatDoor
