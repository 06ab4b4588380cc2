/-
  DERIVED. GIVEN WITH THE SEED: THE CARDS: each row of YtpfbeeikgbijoaaGreatDoorRows.lean that lists a variable, with what it lists TIED to the program's text (the seventh form; the later family's looks); each row that meets fmt, with fmt's text TOLD by the authors' own Lean function (tested against real Go, not proved from fmt's source: count such statements apart). THE CARD IS WHAT COUNTS. Prove the row's statement (the work); the ties are given (YtpfbeeikgbijoaaGreatDoorTie.lean); close each card by the builder's one call (the guide's Derived/Test/ToyasCard.lean, 'card_holds'). Laid BY PROGRAM, IN A SANDBOX (cutbox-door.mjs). By AI agents, Wed Nov 11 2026. No macro, syntax, notation, axiom, sorry.
-/
import Derived.Test.YtpfbeeikgbijoaaGreatDoorRows
import GoSem.ClaimSeven
namespace Go.Proofs.YtpfbeeikgbijoaaGreatDoor
namespace Rows

/-- THE TIED CARD OF 'caliperlaw17.PlainSimplifies'. -/
def plainSimplifiesCard : Claim7 := { stood := { row := plainSimplifiesRow, standIns := [], harness := (true, "5650098722dac54869c48a428b8aa1ff99e0c286f87cca3864eaf0045894535c"), looks := true }, kinds := [], alts := [], laidByText := true, laidKinds := [.data, .pinned], laidTests := true, laidLooks := .later }
def PlainSimplifiesCardSaid : Prop := Claim7.holds Tryz.pinned (.plain (OpenSpec.ofChange plainSimplifiesSpec)) plainSimplifiesCard

/-- THE TIED CARD OF 'caliperlaw17.PlainForms'. -/
def plainFormsCard : Claim7 := { stood := { row := plainFormsRow, standIns := [], harness := (true, "5650098722dac54869c48a428b8aa1ff99e0c286f87cca3864eaf0045894535c"), looks := true }, kinds := [], alts := [], laidByText := true, laidKinds := [.data, .pinned], laidTests := true, laidLooks := .later }
def PlainFormsCardSaid : Prop := Claim7.holds Tryz.pinned (.plain (OpenSpec.ofChange plainFormsSpec)) plainFormsCard

/-- THE TIED CARD OF 'caliperlaw17.PlainEnds'. -/
def plainEndsCard : Claim7 := { stood := { row := plainEndsRow, standIns := [], harness := (true, "5650098722dac54869c48a428b8aa1ff99e0c286f87cca3864eaf0045894535c"), looks := true }, kinds := [], alts := [], laidByText := true, laidKinds := [.data, .pinned], laidTests := true, laidLooks := .later }
def PlainEndsCardSaid : Prop := Claim7.holds Tryz.pinned (.plain (OpenSpec.ofChange plainEndsSpec)) plainEndsCard

/-- THE TIED CARD OF 'caliperlaw17.PlainStays'. -/
def plainStaysCard : Claim7 := { stood := { row := plainStaysRow, standIns := [], harness := (true, "5650098722dac54869c48a428b8aa1ff99e0c286f87cca3864eaf0045894535c"), looks := true }, kinds := [], alts := [], laidByText := true, laidKinds := [.data, .pinned], laidTests := true, laidLooks := .later }
def PlainStaysCardSaid : Prop := Claim7.holds Tryz.pinned (.plain (OpenSpec.ofChange plainStaysSpec)) plainStaysCard

/-- THE TIED CARD OF 'caliperlaw17.PlainSame'. -/
def plainSameCard : Claim7 := { stood := { row := plainSameRow, standIns := [], harness := (true, "5650098722dac54869c48a428b8aa1ff99e0c286f87cca3864eaf0045894535c"), looks := true }, kinds := [], alts := [], laidByText := true, laidKinds := [.data, .pinned], laidTests := true, laidLooks := .later }
def PlainSameCardSaid : Prop := Claim7.holds Tryz.pinned (.plain (OpenSpec.ofChange plainSameSpec)) plainSameCard

/-- THE SECOND FORM's CARD OF 'caliperlaw17.PlainSimplifies'. -/
def plainSimplifiesUptoCard : Claim7 := { stood := { row := plainSimplifiesUptoRow, standIns := [], harness := (true, "5650098722dac54869c48a428b8aa1ff99e0c286f87cca3864eaf0045894535c"), looks := true }, kinds := [], alts := [], laidByText := true, laidKinds := [.data, .pinned], laidTests := true, laidLooks := .later }
def PlainSimplifiesUptoCardSaid : Prop := Claim7.holds Tryz.pinned (.plain (OpenSpec.upto plainSimplifiesSpec)) plainSimplifiesUptoCard

/-- THE SECOND FORM's CARD OF 'caliperlaw17.PlainForms'. -/
def plainFormsUptoCard : Claim7 := { stood := { row := plainFormsUptoRow, standIns := [], harness := (true, "5650098722dac54869c48a428b8aa1ff99e0c286f87cca3864eaf0045894535c"), looks := true }, kinds := [], alts := [], laidByText := true, laidKinds := [.data, .pinned], laidTests := true, laidLooks := .later }
def PlainFormsUptoCardSaid : Prop := Claim7.holds Tryz.pinned (.plain (OpenSpec.upto plainFormsSpec)) plainFormsUptoCard

/-- THE SECOND FORM's CARD OF 'caliperlaw17.PlainEnds'. -/
def plainEndsUptoCard : Claim7 := { stood := { row := plainEndsUptoRow, standIns := [], harness := (true, "5650098722dac54869c48a428b8aa1ff99e0c286f87cca3864eaf0045894535c"), looks := true }, kinds := [], alts := [], laidByText := true, laidKinds := [.data, .pinned], laidTests := true, laidLooks := .later }
def PlainEndsUptoCardSaid : Prop := Claim7.holds Tryz.pinned (.plain (OpenSpec.upto plainEndsSpec)) plainEndsUptoCard

/-- THE SECOND FORM's CARD OF 'caliperlaw17.PlainStays'. -/
def plainStaysUptoCard : Claim7 := { stood := { row := plainStaysUptoRow, standIns := [], harness := (true, "5650098722dac54869c48a428b8aa1ff99e0c286f87cca3864eaf0045894535c"), looks := true }, kinds := [], alts := [], laidByText := true, laidKinds := [.data, .pinned], laidTests := true, laidLooks := .later }
def PlainStaysUptoCardSaid : Prop := Claim7.holds Tryz.pinned (.plain (OpenSpec.upto plainStaysSpec)) plainStaysUptoCard

/-- THE SECOND FORM's CARD OF 'caliperlaw17.PlainSame'. -/
def plainSameUptoCard : Claim7 := { stood := { row := plainSameUptoRow, standIns := [], harness := (true, "5650098722dac54869c48a428b8aa1ff99e0c286f87cca3864eaf0045894535c"), looks := true }, kinds := [], alts := [], laidByText := true, laidKinds := [.data, .pinned], laidTests := true, laidLooks := .later }
def PlainSameUptoCardSaid : Prop := Claim7.holds Tryz.pinned (.plain (OpenSpec.upto plainSameSpec)) plainSameUptoCard
end Rows
end Go.Proofs.YtpfbeeikgbijoaaGreatDoor
