/-
  DERIVED. GIVEN WITH THE SEED: THE CARDS: each row of YtdbkclnlfibgdaaGreatDoorRows.lean that lists a variable, with what it lists TIED to the program's text (the seventh form; the later family's looks); each row that meets fmt, with fmt's text TOLD by the authors' own Lean function (tested against real Go, not proved from fmt's source: count such statements apart). THE CARD IS WHAT COUNTS. Prove the row's statement (the work); the ties are given (YtdbkclnlfibgdaaGreatDoorTie.lean); close each card by the builder's one call (the guide's Derived/Test/ToyasCard.lean, 'card_holds'). Laid BY PROGRAM, IN A SANDBOX (cutbox-door.mjs). By AI agents, Wed Nov 11 2026. No macro, syntax, notation, axiom, sorry.
-/
import Derived.Test.YtdbkclnlfibgdaaGreatDoorRows
import GoSem.ClaimSeven
namespace Go.Proofs.YtdbkclnlfibgdaaGreatDoor
namespace Rows

/-- THE TIED CARD OF 'lodgerlaw16.NamesMay'. -/
def namesMayCard : Claim7 := { stood := { row := namesMayRow, standIns := [], harness := (true, "e208713175586deee0f5eefa77301e35d3cd5068de46b050a172c3ee48726fd3"), looks := true }, kinds := [], alts := [], laidByText := true, laidKinds := [.data, .listed, .data, .pinned], laidTests := true, laidLooks := .later }
def NamesMayCardSaid : Prop := Claim7.holds Tryz.pinned (.plain (OpenSpec.ofChange namesMaySpec)) namesMayCard

/-- THE TIED CARD OF 'lodgerlaw16.NamesText'. -/
def namesTextCard : Claim7 := { stood := { row := namesTextRow, standIns := [], harness := (true, "e208713175586deee0f5eefa77301e35d3cd5068de46b050a172c3ee48726fd3"), looks := true }, kinds := [], alts := [], laidByText := true, laidKinds := [.data, .listed, .data, .pinned], laidTests := true, laidLooks := .later }
def NamesTextCardSaid : Prop := Claim7.holds Tryz.pinned (.plain (OpenSpec.ofChange namesTextSpec)) namesTextCard

/-- THE TIED CARD OF 'lodgerlaw16.NamesDark'. -/
def namesDarkCard : Claim7 := { stood := { row := namesDarkRow, standIns := [], harness := (true, "e208713175586deee0f5eefa77301e35d3cd5068de46b050a172c3ee48726fd3"), looks := true }, kinds := [], alts := [], laidByText := true, laidKinds := [.data, .listed, .data, .pinned], laidTests := true, laidLooks := .later }
def NamesDarkCardSaid : Prop := Claim7.holds Tryz.pinned (.plain (OpenSpec.ofChange namesDarkSpec)) namesDarkCard

/-- THE TIED CARD OF 'lodgerlaw16.NamesKnown'. -/
def namesKnownCard : Claim7 := { stood := { row := namesKnownRow, standIns := [], harness := (true, "e208713175586deee0f5eefa77301e35d3cd5068de46b050a172c3ee48726fd3"), looks := true }, kinds := [], alts := [], laidByText := true, laidKinds := [.data, .listed, .data, .pinned], laidTests := true, laidLooks := .later }
def NamesKnownCardSaid : Prop := Claim7.holds Tryz.pinned (.plain (OpenSpec.ofChange namesKnownSpec)) namesKnownCard

/-- THE SECOND FORM's CARD OF 'lodgerlaw16.NamesMay'. -/
def namesMayUptoCard : Claim7 := { stood := { row := namesMayUptoRow, standIns := [], harness := (true, "e208713175586deee0f5eefa77301e35d3cd5068de46b050a172c3ee48726fd3"), looks := true }, kinds := [], alts := [], laidByText := true, laidKinds := [.data, .listed, .data, .pinned], laidTests := true, laidLooks := .later }
def NamesMayUptoCardSaid : Prop := Claim7.holds Tryz.pinned (.plain (OpenSpec.upto namesMaySpec)) namesMayUptoCard

/-- THE SECOND FORM's CARD OF 'lodgerlaw16.NamesText'. -/
def namesTextUptoCard : Claim7 := { stood := { row := namesTextUptoRow, standIns := [], harness := (true, "e208713175586deee0f5eefa77301e35d3cd5068de46b050a172c3ee48726fd3"), looks := true }, kinds := [], alts := [], laidByText := true, laidKinds := [.data, .listed, .data, .pinned], laidTests := true, laidLooks := .later }
def NamesTextUptoCardSaid : Prop := Claim7.holds Tryz.pinned (.plain (OpenSpec.upto namesTextSpec)) namesTextUptoCard

/-- THE SECOND FORM's CARD OF 'lodgerlaw16.NamesDark'. -/
def namesDarkUptoCard : Claim7 := { stood := { row := namesDarkUptoRow, standIns := [], harness := (true, "e208713175586deee0f5eefa77301e35d3cd5068de46b050a172c3ee48726fd3"), looks := true }, kinds := [], alts := [], laidByText := true, laidKinds := [.data, .listed, .data, .pinned], laidTests := true, laidLooks := .later }
def NamesDarkUptoCardSaid : Prop := Claim7.holds Tryz.pinned (.plain (OpenSpec.upto namesDarkSpec)) namesDarkUptoCard

/-- THE SECOND FORM's CARD OF 'lodgerlaw16.NamesKnown'. -/
def namesKnownUptoCard : Claim7 := { stood := { row := namesKnownUptoRow, standIns := [], harness := (true, "e208713175586deee0f5eefa77301e35d3cd5068de46b050a172c3ee48726fd3"), looks := true }, kinds := [], alts := [], laidByText := true, laidKinds := [.data, .listed, .data, .pinned], laidTests := true, laidLooks := .later }
def NamesKnownUptoCardSaid : Prop := Claim7.holds Tryz.pinned (.plain (OpenSpec.upto namesKnownSpec)) namesKnownUptoCard
end Rows
end Go.Proofs.YtdbkclnlfibgdaaGreatDoor
