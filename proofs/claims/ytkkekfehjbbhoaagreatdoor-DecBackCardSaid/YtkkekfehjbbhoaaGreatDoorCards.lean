/-
  DERIVED. GIVEN WITH THE SEED: THE CARDS: each row of YtkkekfehjbbhoaaGreatDoorRows.lean that lists a variable, with what it lists TIED to the program's text (the seventh form; the later family's looks); each row that meets fmt, with fmt's text TOLD by the authors' own Lean function (tested against real Go, not proved from fmt's source: count such statements apart). THE CARD IS WHAT COUNTS. Prove the row's statement (the work); the ties are given (YtkkekfehjbbhoaaGreatDoorTie.lean); close each card by the builder's one call (the guide's Derived/Test/ToyasCard.lean, 'card_holds'). Laid BY PROGRAM, IN A SANDBOX (cutbox-door.mjs). By AI agents, Wed Nov 11 2026. No macro, syntax, notation, axiom, sorry.
-/
import Derived.Test.YtkkekfehjbbhoaaGreatDoorRows
import GoSem.ClaimSeven
namespace Go.Proofs.YtkkekfehjbbhoaaGreatDoor
namespace Rows

/-- THE TIED CARD OF 'caliperlaw03.DecMultiples'. -/
def decMultiplesCard : Claim7 := { stood := { row := decMultiplesRow, standIns := [], harness := (true, "9d53779d1498bab4d15bfc846fc3ddc8d14135090198237ef15af2ebe7bd2e81"), looks := true }, kinds := [], alts := [], laidByText := true, laidKinds := [.data, .data, .data, .data, .handle, .pinned], laidTests := true, laidLooks := .later }
def DecMultiplesCardSaid : Prop := Claim7.holds Tryz.pinned (.plain (OpenSpec.ofChange decMultiplesSpec)) decMultiplesCard

/-- THE TIED CARD OF 'caliperlaw03.DecCompares'. -/
def decComparesCard : Claim7 := { stood := { row := decComparesRow, standIns := [], harness := (true, "9d53779d1498bab4d15bfc846fc3ddc8d14135090198237ef15af2ebe7bd2e81"), looks := true }, kinds := [], alts := [], laidByText := true, laidKinds := [.data, .data, .data, .data, .handle, .pinned], laidTests := true, laidLooks := .later }
def DecComparesCardSaid : Prop := Claim7.holds Tryz.pinned (.plain (OpenSpec.ofChange decComparesSpec)) decComparesCard

/-- THE TIED CARD OF 'caliperlaw03.DecBack'. -/
def decBackCard : Claim7 := { stood := { row := decBackRow, standIns := [], harness := (true, "9d53779d1498bab4d15bfc846fc3ddc8d14135090198237ef15af2ebe7bd2e81"), looks := true }, kinds := [], alts := [], laidByText := true, laidKinds := [.data, .data, .data, .data, .handle, .pinned], laidTests := true, laidLooks := .later }
def DecBackCardSaid : Prop := Claim7.holds Tryz.pinned (.plain (OpenSpec.ofChange decBackSpec)) decBackCard

/-- THE TIED CARD OF 'caliperlaw03.DecOrder'. -/
def decOrderCard : Claim7 := { stood := { row := decOrderRow, standIns := [], harness := (true, "9d53779d1498bab4d15bfc846fc3ddc8d14135090198237ef15af2ebe7bd2e81"), looks := true }, kinds := [], alts := [], laidByText := true, laidKinds := [.data, .data, .data, .data, .handle, .pinned], laidTests := true, laidLooks := .later }
def DecOrderCardSaid : Prop := Claim7.holds Tryz.pinned (.plain (OpenSpec.ofChange decOrderSpec)) decOrderCard

/-- THE TIED CARD OF 'caliperlaw03.DecTimes'. -/
def decTimesCard : Claim7 := { stood := { row := decTimesRow, standIns := [], harness := (true, "9d53779d1498bab4d15bfc846fc3ddc8d14135090198237ef15af2ebe7bd2e81"), looks := true }, kinds := [], alts := [], laidByText := true, laidKinds := [.data, .data, .data, .data, .handle, .pinned], laidTests := true, laidLooks := .later }
def DecTimesCardSaid : Prop := Claim7.holds Tryz.pinned (.plain (OpenSpec.ofChange decTimesSpec)) decTimesCard

/-- THE SECOND FORM's CARD OF 'caliperlaw03.DecMultiples'. -/
def decMultiplesUptoCard : Claim7 := { stood := { row := decMultiplesUptoRow, standIns := [], harness := (true, "9d53779d1498bab4d15bfc846fc3ddc8d14135090198237ef15af2ebe7bd2e81"), looks := true }, kinds := [], alts := [], laidByText := true, laidKinds := [.data, .data, .data, .data, .handle, .pinned], laidTests := true, laidLooks := .later }
def DecMultiplesUptoCardSaid : Prop := Claim7.holds Tryz.pinned (.plain (OpenSpec.upto decMultiplesSpec)) decMultiplesUptoCard

/-- THE SECOND FORM's CARD OF 'caliperlaw03.DecCompares'. -/
def decComparesUptoCard : Claim7 := { stood := { row := decComparesUptoRow, standIns := [], harness := (true, "9d53779d1498bab4d15bfc846fc3ddc8d14135090198237ef15af2ebe7bd2e81"), looks := true }, kinds := [], alts := [], laidByText := true, laidKinds := [.data, .data, .data, .data, .handle, .pinned], laidTests := true, laidLooks := .later }
def DecComparesUptoCardSaid : Prop := Claim7.holds Tryz.pinned (.plain (OpenSpec.upto decComparesSpec)) decComparesUptoCard

/-- THE SECOND FORM's CARD OF 'caliperlaw03.DecBack'. -/
def decBackUptoCard : Claim7 := { stood := { row := decBackUptoRow, standIns := [], harness := (true, "9d53779d1498bab4d15bfc846fc3ddc8d14135090198237ef15af2ebe7bd2e81"), looks := true }, kinds := [], alts := [], laidByText := true, laidKinds := [.data, .data, .data, .data, .handle, .pinned], laidTests := true, laidLooks := .later }
def DecBackUptoCardSaid : Prop := Claim7.holds Tryz.pinned (.plain (OpenSpec.upto decBackSpec)) decBackUptoCard

/-- THE SECOND FORM's CARD OF 'caliperlaw03.DecOrder'. -/
def decOrderUptoCard : Claim7 := { stood := { row := decOrderUptoRow, standIns := [], harness := (true, "9d53779d1498bab4d15bfc846fc3ddc8d14135090198237ef15af2ebe7bd2e81"), looks := true }, kinds := [], alts := [], laidByText := true, laidKinds := [.data, .data, .data, .data, .handle, .pinned], laidTests := true, laidLooks := .later }
def DecOrderUptoCardSaid : Prop := Claim7.holds Tryz.pinned (.plain (OpenSpec.upto decOrderSpec)) decOrderUptoCard

/-- THE SECOND FORM's CARD OF 'caliperlaw03.DecTimes'. -/
def decTimesUptoCard : Claim7 := { stood := { row := decTimesUptoRow, standIns := [], harness := (true, "9d53779d1498bab4d15bfc846fc3ddc8d14135090198237ef15af2ebe7bd2e81"), looks := true }, kinds := [], alts := [], laidByText := true, laidKinds := [.data, .data, .data, .data, .handle, .pinned], laidTests := true, laidLooks := .later }
def DecTimesUptoCardSaid : Prop := Claim7.holds Tryz.pinned (.plain (OpenSpec.upto decTimesSpec)) decTimesUptoCard
end Rows
end Go.Proofs.YtkkekfehjbbhoaaGreatDoor
