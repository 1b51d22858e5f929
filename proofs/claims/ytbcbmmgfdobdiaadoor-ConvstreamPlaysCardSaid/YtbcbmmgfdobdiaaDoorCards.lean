/-
  DERIVED. GIVEN WITH THE SEED: THE CARDS: each row of YtbcbmmgfdobdiaaDoorRows.lean that lists a variable, with what it lists TIED to the program's text (the seventh form; the later family's looks); each row that meets fmt, with fmt's text TOLD by the authors' own Lean function (tested against real Go, not proved from fmt's source: count such statements apart). THE CARD IS WHAT COUNTS. Prove the row's statement (the work); the ties are given (YtbcbmmgfdobdiaaDoorTie.lean); close each card by the builder's one call (the guide's Derived/Test/ToyasCard.lean, 'card_holds'). Laid BY PROGRAM, IN A SANDBOX (cutbox-door.mjs). By AI agents, Wed Nov 11 2026. No macro, syntax, notation, axiom, sorry.
-/
import Derived.Test.YtbcbmmgfdobdiaaDoorRows
import GoSem.ClaimSeven
namespace Go.Proofs.YtbcbmmgfdobdiaaDoor
namespace Rows

/-- THE TIED CARD OF 'unicodetextlaw08.ConvstreamClosed'. -/
def convstreamClosedCard : Claim7 := { stood := { row := convstreamClosedRow, standIns := [], harness := (true, "cdca46d40339e6c203580c4f6112f63ddbc1e920270dec55919c10667c1f391f"), looks := true }, kinds := [], alts := [], laidByText := true, laidKinds := [.data], laidTests := true, laidLooks := .later }
def ConvstreamClosedCardSaid : Prop := Claim7.holds Tryd.pinned (.plain (OpenSpec.ofChange convstreamClosedSpec)) convstreamClosedCard

/-- THE TIED CARD OF 'unicodetextlaw08.ConvstreamNil'. -/
def convstreamNilCard : Claim7 := { stood := { row := convstreamNilRow, standIns := [], harness := (true, "cdca46d40339e6c203580c4f6112f63ddbc1e920270dec55919c10667c1f391f"), looks := true }, kinds := [], alts := [], laidByText := true, laidKinds := [.data], laidTests := true, laidLooks := .later }
def ConvstreamNilCardSaid : Prop := Claim7.holds Tryd.pinned (.plain (OpenSpec.ofChange convstreamNilSpec)) convstreamNilCard

/-- THE TIED CARD OF 'unicodetextlaw07.ConvertReturns'. -/
def convertReturnsCard : Claim7 := { stood := { row := convertReturnsRow, standIns := [], harness := (true, "cdca46d40339e6c203580c4f6112f63ddbc1e920270dec55919c10667c1f391f"), looks := true }, kinds := [], alts := [], laidByText := true, laidKinds := [.data], laidTests := true, laidLooks := .later }
def ConvertReturnsCardSaid : Prop := Claim7.holds Tryd.pinned (.plain (OpenSpec.ofChange convertReturnsSpec)) convertReturnsCard

/-- THE TIED CARD OF 'unicodetextlaw07.ConvertPieces'. -/
def convertPiecesCard : Claim7 := { stood := { row := convertPiecesRow, standIns := [], harness := (true, "cdca46d40339e6c203580c4f6112f63ddbc1e920270dec55919c10667c1f391f"), looks := true }, kinds := [], alts := [], laidByText := true, laidKinds := [.data], laidTests := true, laidLooks := .later }
def ConvertPiecesCardSaid : Prop := Claim7.holds Tryd.pinned (.plain (OpenSpec.ofChange convertPiecesSpec)) convertPiecesCard

/-- THE TIED CARD OF 'unicodetextlaw07.ConvertSteps'. -/
def convertStepsCard : Claim7 := { stood := { row := convertStepsRow, standIns := [], harness := (true, "cdca46d40339e6c203580c4f6112f63ddbc1e920270dec55919c10667c1f391f"), looks := true }, kinds := [], alts := [], laidByText := true, laidKinds := [.data], laidTests := true, laidLooks := .later }
def ConvertStepsCardSaid : Prop := Claim7.holds Tryd.pinned (.plain (OpenSpec.ofChange convertStepsSpec)) convertStepsCard

/-- THE TIED CARD OF 'unicodetextlaw07.ConvertForms'. -/
def convertFormsCard : Claim7 := { stood := { row := convertFormsRow, standIns := [], harness := (true, "cdca46d40339e6c203580c4f6112f63ddbc1e920270dec55919c10667c1f391f"), looks := true }, kinds := [], alts := [], laidByText := true, laidKinds := [.data], laidTests := true, laidLooks := .later }
def ConvertFormsCardSaid : Prop := Claim7.holds Tryd.pinned (.plain (OpenSpec.ofChange convertFormsSpec)) convertFormsCard

/-- THE TIED CARD OF 'unicodetextlaw08.ConvstreamNew'. -/
def convstreamNewCard : Claim7 := { stood := { row := convstreamNewRow, standIns := [], harness := (true, "cdca46d40339e6c203580c4f6112f63ddbc1e920270dec55919c10667c1f391f"), looks := true }, kinds := [], alts := [], laidByText := true, laidKinds := [.data], laidTests := true, laidLooks := .later }
def ConvstreamNewCardSaid : Prop := Claim7.holds Tryd.pinned (.plain (OpenSpec.ofChange convstreamNewSpec)) convstreamNewCard

/-- THE TIED CARD OF 'unicodetextlaw08.ConvstreamPending'. -/
def convstreamPendingCard : Claim7 := { stood := { row := convstreamPendingRow, standIns := [], harness := (true, "cdca46d40339e6c203580c4f6112f63ddbc1e920270dec55919c10667c1f391f"), looks := true }, kinds := [], alts := [], laidByText := true, laidKinds := [.data], laidTests := true, laidLooks := .later }
def ConvstreamPendingCardSaid : Prop := Claim7.holds Tryd.pinned (.plain (OpenSpec.ofChange convstreamPendingSpec)) convstreamPendingCard

/-- THE TIED CARD OF 'unicodetextlaw08.ConvstreamPlays'. -/
def convstreamPlaysCard : Claim7 := { stood := { row := convstreamPlaysRow, standIns := [], harness := (true, "cdca46d40339e6c203580c4f6112f63ddbc1e920270dec55919c10667c1f391f"), looks := true }, kinds := [], alts := [], laidByText := true, laidKinds := [.data], laidTests := true, laidLooks := .later }
def ConvstreamPlaysCardSaid : Prop := Claim7.holds Tryd.pinned (.plain (OpenSpec.ofChange convstreamPlaysSpec)) convstreamPlaysCard

/-- THE TIED CARD OF 'unicodetextlaw08.ConvstreamWhole'. -/
def convstreamWholeCard : Claim7 := { stood := { row := convstreamWholeRow, standIns := [], harness := (true, "cdca46d40339e6c203580c4f6112f63ddbc1e920270dec55919c10667c1f391f"), looks := true }, kinds := [], alts := [], laidByText := true, laidKinds := [.data], laidTests := true, laidLooks := .later }
def ConvstreamWholeCardSaid : Prop := Claim7.holds Tryd.pinned (.plain (OpenSpec.ofChange convstreamWholeSpec)) convstreamWholeCard

/-- THE TIED CARD OF 'unicodetextlaw08.ConvstreamBegins'. -/
def convstreamBeginsCard : Claim7 := { stood := { row := convstreamBeginsRow, standIns := [], harness := (true, "cdca46d40339e6c203580c4f6112f63ddbc1e920270dec55919c10667c1f391f"), looks := true }, kinds := [], alts := [], laidByText := true, laidKinds := [.data], laidTests := true, laidLooks := .later }
def ConvstreamBeginsCardSaid : Prop := Claim7.holds Tryd.pinned (.plain (OpenSpec.ofChange convstreamBeginsSpec)) convstreamBeginsCard

/-- THE TIED CARD OF 'unicodetextlaw08.ConvstreamCuts'. -/
def convstreamCutsCard : Claim7 := { stood := { row := convstreamCutsRow, standIns := [], harness := (true, "cdca46d40339e6c203580c4f6112f63ddbc1e920270dec55919c10667c1f391f"), looks := true }, kinds := [], alts := [], laidByText := true, laidKinds := [.data], laidTests := true, laidLooks := .later }
def ConvstreamCutsCardSaid : Prop := Claim7.holds Tryd.pinned (.plain (OpenSpec.ofChange convstreamCutsSpec)) convstreamCutsCard

/-- THE SECOND FORM's CARD OF 'unicodetextlaw08.ConvstreamClosed'. -/
def convstreamClosedUptoCard : Claim7 := { stood := { row := convstreamClosedUptoRow, standIns := [], harness := (true, "cdca46d40339e6c203580c4f6112f63ddbc1e920270dec55919c10667c1f391f"), looks := true }, kinds := [], alts := [], laidByText := true, laidKinds := [.data], laidTests := true, laidLooks := .later }
def ConvstreamClosedUptoCardSaid : Prop := Claim7.holds Tryd.pinned (.plain (OpenSpec.upto convstreamClosedSpec)) convstreamClosedUptoCard

/-- THE SECOND FORM's CARD OF 'unicodetextlaw08.ConvstreamNil'. -/
def convstreamNilUptoCard : Claim7 := { stood := { row := convstreamNilUptoRow, standIns := [], harness := (true, "cdca46d40339e6c203580c4f6112f63ddbc1e920270dec55919c10667c1f391f"), looks := true }, kinds := [], alts := [], laidByText := true, laidKinds := [.data], laidTests := true, laidLooks := .later }
def ConvstreamNilUptoCardSaid : Prop := Claim7.holds Tryd.pinned (.plain (OpenSpec.upto convstreamNilSpec)) convstreamNilUptoCard

/-- THE SECOND FORM's CARD OF 'unicodetextlaw07.ConvertReturns'. -/
def convertReturnsUptoCard : Claim7 := { stood := { row := convertReturnsUptoRow, standIns := [], harness := (true, "cdca46d40339e6c203580c4f6112f63ddbc1e920270dec55919c10667c1f391f"), looks := true }, kinds := [], alts := [], laidByText := true, laidKinds := [.data], laidTests := true, laidLooks := .later }
def ConvertReturnsUptoCardSaid : Prop := Claim7.holds Tryd.pinned (.plain (OpenSpec.upto convertReturnsSpec)) convertReturnsUptoCard

/-- THE SECOND FORM's CARD OF 'unicodetextlaw07.ConvertPieces'. -/
def convertPiecesUptoCard : Claim7 := { stood := { row := convertPiecesUptoRow, standIns := [], harness := (true, "cdca46d40339e6c203580c4f6112f63ddbc1e920270dec55919c10667c1f391f"), looks := true }, kinds := [], alts := [], laidByText := true, laidKinds := [.data], laidTests := true, laidLooks := .later }
def ConvertPiecesUptoCardSaid : Prop := Claim7.holds Tryd.pinned (.plain (OpenSpec.upto convertPiecesSpec)) convertPiecesUptoCard

/-- THE SECOND FORM's CARD OF 'unicodetextlaw07.ConvertSteps'. -/
def convertStepsUptoCard : Claim7 := { stood := { row := convertStepsUptoRow, standIns := [], harness := (true, "cdca46d40339e6c203580c4f6112f63ddbc1e920270dec55919c10667c1f391f"), looks := true }, kinds := [], alts := [], laidByText := true, laidKinds := [.data], laidTests := true, laidLooks := .later }
def ConvertStepsUptoCardSaid : Prop := Claim7.holds Tryd.pinned (.plain (OpenSpec.upto convertStepsSpec)) convertStepsUptoCard

/-- THE SECOND FORM's CARD OF 'unicodetextlaw07.ConvertForms'. -/
def convertFormsUptoCard : Claim7 := { stood := { row := convertFormsUptoRow, standIns := [], harness := (true, "cdca46d40339e6c203580c4f6112f63ddbc1e920270dec55919c10667c1f391f"), looks := true }, kinds := [], alts := [], laidByText := true, laidKinds := [.data], laidTests := true, laidLooks := .later }
def ConvertFormsUptoCardSaid : Prop := Claim7.holds Tryd.pinned (.plain (OpenSpec.upto convertFormsSpec)) convertFormsUptoCard

/-- THE SECOND FORM's CARD OF 'unicodetextlaw08.ConvstreamNew'. -/
def convstreamNewUptoCard : Claim7 := { stood := { row := convstreamNewUptoRow, standIns := [], harness := (true, "cdca46d40339e6c203580c4f6112f63ddbc1e920270dec55919c10667c1f391f"), looks := true }, kinds := [], alts := [], laidByText := true, laidKinds := [.data], laidTests := true, laidLooks := .later }
def ConvstreamNewUptoCardSaid : Prop := Claim7.holds Tryd.pinned (.plain (OpenSpec.upto convstreamNewSpec)) convstreamNewUptoCard

/-- THE SECOND FORM's CARD OF 'unicodetextlaw08.ConvstreamPending'. -/
def convstreamPendingUptoCard : Claim7 := { stood := { row := convstreamPendingUptoRow, standIns := [], harness := (true, "cdca46d40339e6c203580c4f6112f63ddbc1e920270dec55919c10667c1f391f"), looks := true }, kinds := [], alts := [], laidByText := true, laidKinds := [.data], laidTests := true, laidLooks := .later }
def ConvstreamPendingUptoCardSaid : Prop := Claim7.holds Tryd.pinned (.plain (OpenSpec.upto convstreamPendingSpec)) convstreamPendingUptoCard

/-- THE SECOND FORM's CARD OF 'unicodetextlaw08.ConvstreamPlays'. -/
def convstreamPlaysUptoCard : Claim7 := { stood := { row := convstreamPlaysUptoRow, standIns := [], harness := (true, "cdca46d40339e6c203580c4f6112f63ddbc1e920270dec55919c10667c1f391f"), looks := true }, kinds := [], alts := [], laidByText := true, laidKinds := [.data], laidTests := true, laidLooks := .later }
def ConvstreamPlaysUptoCardSaid : Prop := Claim7.holds Tryd.pinned (.plain (OpenSpec.upto convstreamPlaysSpec)) convstreamPlaysUptoCard

/-- THE SECOND FORM's CARD OF 'unicodetextlaw08.ConvstreamWhole'. -/
def convstreamWholeUptoCard : Claim7 := { stood := { row := convstreamWholeUptoRow, standIns := [], harness := (true, "cdca46d40339e6c203580c4f6112f63ddbc1e920270dec55919c10667c1f391f"), looks := true }, kinds := [], alts := [], laidByText := true, laidKinds := [.data], laidTests := true, laidLooks := .later }
def ConvstreamWholeUptoCardSaid : Prop := Claim7.holds Tryd.pinned (.plain (OpenSpec.upto convstreamWholeSpec)) convstreamWholeUptoCard

/-- THE SECOND FORM's CARD OF 'unicodetextlaw08.ConvstreamBegins'. -/
def convstreamBeginsUptoCard : Claim7 := { stood := { row := convstreamBeginsUptoRow, standIns := [], harness := (true, "cdca46d40339e6c203580c4f6112f63ddbc1e920270dec55919c10667c1f391f"), looks := true }, kinds := [], alts := [], laidByText := true, laidKinds := [.data], laidTests := true, laidLooks := .later }
def ConvstreamBeginsUptoCardSaid : Prop := Claim7.holds Tryd.pinned (.plain (OpenSpec.upto convstreamBeginsSpec)) convstreamBeginsUptoCard

/-- THE SECOND FORM's CARD OF 'unicodetextlaw08.ConvstreamCuts'. -/
def convstreamCutsUptoCard : Claim7 := { stood := { row := convstreamCutsUptoRow, standIns := [], harness := (true, "cdca46d40339e6c203580c4f6112f63ddbc1e920270dec55919c10667c1f391f"), looks := true }, kinds := [], alts := [], laidByText := true, laidKinds := [.data], laidTests := true, laidLooks := .later }
def ConvstreamCutsUptoCardSaid : Prop := Claim7.holds Tryd.pinned (.plain (OpenSpec.upto convstreamCutsSpec)) convstreamCutsUptoCard
end Rows
end Go.Proofs.YtbcbmmgfdobdiaaDoor
