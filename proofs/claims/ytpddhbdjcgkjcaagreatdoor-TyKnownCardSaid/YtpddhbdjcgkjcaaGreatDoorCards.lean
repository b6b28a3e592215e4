/-
  DERIVED. GIVEN WITH THE SEED: THE CARDS: each row of YtpddhbdjcgkjcaaGreatDoorRows.lean that lists a variable, with what it lists TIED to the program's text (the seventh form; the later family's looks); each row that meets fmt, with fmt's text TOLD by the authors' own Lean function (tested against real Go, not proved from fmt's source: count such statements apart). THE CARD IS WHAT COUNTS. Prove the row's statement (the work); the ties are given (YtpddhbdjcgkjcaaGreatDoorTie.lean); close each card by the builder's one call (the guide's Derived/Test/ToyasCard.lean, 'card_holds'). Laid BY PROGRAM, IN A SANDBOX (cutbox-door.mjs). By AI agents, Wed Nov 11 2026. No macro, syntax, notation, axiom, sorry.
-/
import Derived.Test.YtpddhbdjcgkjcaaGreatDoorRows
import GoSem.ClaimSeven
namespace Go.Proofs.YtpddhbdjcgkjcaaGreatDoor
namespace Rows

/-- THE TIED CARD OF 'lodgerlaw12.TyLooks'. -/
def tyLooksCard : Claim7 := { stood := { row := tyLooksRow, standIns := [], harness := (true, "ae89c5b80b173b384b55f46f02ae4ce5f18b950f212bb291dd08fabc5796121e"), looks := false }, kinds := [], alts := [], laidByText := true, laidKinds := [.data, .pinned], laidTests := true, laidLooks := .later }
def TyLooksCardSaid : Prop := Claim7.holds Tryz.pinned (.plain (OpenSpec.ofChange tyLooksSpec)) tyLooksCard

/-- THE TIED CARD OF 'lodgerlaw12.TyMakes'. -/
def tyMakesCard : Claim7 := { stood := { row := tyMakesRow, standIns := [], harness := (true, "ae89c5b80b173b384b55f46f02ae4ce5f18b950f212bb291dd08fabc5796121e"), looks := false }, kinds := [], alts := [], laidByText := true, laidKinds := [.data, .pinned], laidTests := true, laidLooks := .later }
def TyMakesCardSaid : Prop := Claim7.holds Tryz.pinned (.plain (OpenSpec.ofChange tyMakesSpec)) tyMakesCard

/-- THE TIED CARD OF 'lodgerlaw12.TyTexts'. -/
def tyTextsCard : Claim7 := { stood := { row := tyTextsRow, standIns := [], harness := (true, "ae89c5b80b173b384b55f46f02ae4ce5f18b950f212bb291dd08fabc5796121e"), looks := false }, kinds := [], alts := [], laidByText := true, laidKinds := [.data, .pinned], laidTests := true, laidLooks := .later }
def TyTextsCardSaid : Prop := Claim7.holds Tryz.pinned (.plain (OpenSpec.ofChange tyTextsSpec)) tyTextsCard

/-- THE TIED CARD OF 'lodgerlaw12.TyUnions'. -/
def tyUnionsCard : Claim7 := { stood := { row := tyUnionsRow, standIns := [], harness := (true, "ae89c5b80b173b384b55f46f02ae4ce5f18b950f212bb291dd08fabc5796121e"), looks := false }, kinds := [], alts := [], laidByText := true, laidKinds := [.data, .pinned], laidTests := true, laidLooks := .later }
def TyUnionsCardSaid : Prop := Claim7.holds Tryz.pinned (.plain (OpenSpec.ofChange tyUnionsSpec)) tyUnionsCard

/-- THE TIED CARD OF 'lodgerlaw12.TyRecords'. -/
def tyRecordsCard : Claim7 := { stood := { row := tyRecordsRow, standIns := [], harness := (true, "ae89c5b80b173b384b55f46f02ae4ce5f18b950f212bb291dd08fabc5796121e"), looks := false }, kinds := [], alts := [], laidByText := true, laidKinds := [.data, .pinned], laidTests := true, laidLooks := .later }
def TyRecordsCardSaid : Prop := Claim7.holds Tryz.pinned (.plain (OpenSpec.ofChange tyRecordsSpec)) tyRecordsCard

/-- THE TIED CARD OF 'lodgerlaw12.TyKnown'. -/
def tyKnownCard : Claim7 := { stood := { row := tyKnownRow, standIns := [], harness := (true, "ae89c5b80b173b384b55f46f02ae4ce5f18b950f212bb291dd08fabc5796121e"), looks := false }, kinds := [], alts := [], laidByText := true, laidKinds := [.data, .pinned], laidTests := true, laidLooks := .later }
def TyKnownCardSaid : Prop := Claim7.holds Tryz.pinned (.plain (OpenSpec.ofChange tyKnownSpec)) tyKnownCard

/-- THE SECOND FORM's CARD OF 'lodgerlaw12.TyLooks'. -/
def tyLooksUptoCard : Claim7 := { stood := { row := tyLooksUptoRow, standIns := [], harness := (true, "ae89c5b80b173b384b55f46f02ae4ce5f18b950f212bb291dd08fabc5796121e"), looks := false }, kinds := [], alts := [], laidByText := true, laidKinds := [.data, .pinned], laidTests := true, laidLooks := .later }
def TyLooksUptoCardSaid : Prop := Claim7.holds Tryz.pinned (.plain (OpenSpec.upto tyLooksSpec)) tyLooksUptoCard

/-- THE SECOND FORM's CARD OF 'lodgerlaw12.TyMakes'. -/
def tyMakesUptoCard : Claim7 := { stood := { row := tyMakesUptoRow, standIns := [], harness := (true, "ae89c5b80b173b384b55f46f02ae4ce5f18b950f212bb291dd08fabc5796121e"), looks := false }, kinds := [], alts := [], laidByText := true, laidKinds := [.data, .pinned], laidTests := true, laidLooks := .later }
def TyMakesUptoCardSaid : Prop := Claim7.holds Tryz.pinned (.plain (OpenSpec.upto tyMakesSpec)) tyMakesUptoCard

/-- THE SECOND FORM's CARD OF 'lodgerlaw12.TyTexts'. -/
def tyTextsUptoCard : Claim7 := { stood := { row := tyTextsUptoRow, standIns := [], harness := (true, "ae89c5b80b173b384b55f46f02ae4ce5f18b950f212bb291dd08fabc5796121e"), looks := false }, kinds := [], alts := [], laidByText := true, laidKinds := [.data, .pinned], laidTests := true, laidLooks := .later }
def TyTextsUptoCardSaid : Prop := Claim7.holds Tryz.pinned (.plain (OpenSpec.upto tyTextsSpec)) tyTextsUptoCard

/-- THE SECOND FORM's CARD OF 'lodgerlaw12.TyUnions'. -/
def tyUnionsUptoCard : Claim7 := { stood := { row := tyUnionsUptoRow, standIns := [], harness := (true, "ae89c5b80b173b384b55f46f02ae4ce5f18b950f212bb291dd08fabc5796121e"), looks := false }, kinds := [], alts := [], laidByText := true, laidKinds := [.data, .pinned], laidTests := true, laidLooks := .later }
def TyUnionsUptoCardSaid : Prop := Claim7.holds Tryz.pinned (.plain (OpenSpec.upto tyUnionsSpec)) tyUnionsUptoCard

/-- THE SECOND FORM's CARD OF 'lodgerlaw12.TyRecords'. -/
def tyRecordsUptoCard : Claim7 := { stood := { row := tyRecordsUptoRow, standIns := [], harness := (true, "ae89c5b80b173b384b55f46f02ae4ce5f18b950f212bb291dd08fabc5796121e"), looks := false }, kinds := [], alts := [], laidByText := true, laidKinds := [.data, .pinned], laidTests := true, laidLooks := .later }
def TyRecordsUptoCardSaid : Prop := Claim7.holds Tryz.pinned (.plain (OpenSpec.upto tyRecordsSpec)) tyRecordsUptoCard

/-- THE SECOND FORM's CARD OF 'lodgerlaw12.TyKnown'. -/
def tyKnownUptoCard : Claim7 := { stood := { row := tyKnownUptoRow, standIns := [], harness := (true, "ae89c5b80b173b384b55f46f02ae4ce5f18b950f212bb291dd08fabc5796121e"), looks := false }, kinds := [], alts := [], laidByText := true, laidKinds := [.data, .pinned], laidTests := true, laidLooks := .later }
def TyKnownUptoCardSaid : Prop := Claim7.holds Tryz.pinned (.plain (OpenSpec.upto tyKnownSpec)) tyKnownUptoCard
end Rows
end Go.Proofs.YtpddhbdjcgkjcaaGreatDoor
