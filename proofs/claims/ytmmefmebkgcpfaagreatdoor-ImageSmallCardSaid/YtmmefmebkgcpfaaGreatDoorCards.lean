/-
  DERIVED. GIVEN WITH THE SEED: THE CARDS: each row of YtmmefmebkgcpfaaGreatDoorRows.lean that lists a variable, with what it lists TIED to the program's text (the seventh form; the later family's looks); each row that meets fmt, with fmt's text TOLD by the authors' own Lean function (tested against real Go, not proved from fmt's source: count such statements apart). THE CARD IS WHAT COUNTS. Prove the row's statement (the work); the ties are given (YtmmefmebkgcpfaaGreatDoorTie.lean); close each card by the builder's one call (the guide's Derived/Test/ToyasCard.lean, 'card_holds'). Laid BY PROGRAM, IN A SANDBOX (cutbox-door.mjs). By AI agents, Wed Nov 11 2026. No macro, syntax, notation, axiom, sorry.
-/
import Derived.Test.YtmmefmebkgcpfaaGreatDoorRows
import GoSem.ClaimSeven
namespace Go.Proofs.YtmmefmebkgcpfaaGreatDoor
namespace Rows

/-- THE TIED CARD OF 'quirelaw20.ImageSmall'. -/
def imageSmallCard : Claim7 := { stood := { row := imageSmallRow, standIns := [], harness := (true, "b1b99e4aaa896bd552991ca559c9f006fd6890c870dfe717214d73ac175b8ba5"), looks := true }, kinds := [], alts := [], laidByText := true, laidKinds := [.data, .listed, .data, .pinned], laidTests := true, laidLooks := .later }
def ImageSmallCardSaid : Prop := Claim7.holds Tryz.pinned (.plain (OpenSpec.ofChange imageSmallSpec)) imageSmallCard

/-- THE TIED CARD OF 'quirelaw20.ImageApart'. -/
def imageApartCard : Claim7 := { stood := { row := imageApartRow, standIns := [], harness := (true, "b1b99e4aaa896bd552991ca559c9f006fd6890c870dfe717214d73ac175b8ba5"), looks := true }, kinds := [], alts := [], laidByText := true, laidKinds := [.data, .listed, .data, .pinned], laidTests := true, laidLooks := .later }
def ImageApartCardSaid : Prop := Claim7.holds Tryz.pinned (.plain (OpenSpec.ofChange imageApartSpec)) imageApartCard

/-- THE TIED CARD OF 'quirelaw20.ImageReads'. -/
def imageReadsCard : Claim7 := { stood := { row := imageReadsRow, standIns := [], harness := (true, "b1b99e4aaa896bd552991ca559c9f006fd6890c870dfe717214d73ac175b8ba5"), looks := true }, kinds := [], alts := [], laidByText := true, laidKinds := [.data, .listed, .data, .pinned], laidTests := true, laidLooks := .later }
def ImageReadsCardSaid : Prop := Claim7.holds Tryz.pinned (.plain (OpenSpec.ofChange imageReadsSpec)) imageReadsCard

/-- THE TIED CARD OF 'quirelaw20.ImageSpoilt'. -/
def imageSpoiltCard : Claim7 := { stood := { row := imageSpoiltRow, standIns := [], harness := (true, "b1b99e4aaa896bd552991ca559c9f006fd6890c870dfe717214d73ac175b8ba5"), looks := true }, kinds := [], alts := [], laidByText := true, laidKinds := [.data, .listed, .data, .pinned], laidTests := true, laidLooks := .later }
def ImageSpoiltCardSaid : Prop := Claim7.holds Tryz.pinned (.plain (OpenSpec.ofChange imageSpoiltSpec)) imageSpoiltCard

/-- THE TIED CARD OF 'quirelaw20.ImageKeeps'. -/
def imageKeepsCard : Claim7 := { stood := { row := imageKeepsRow, standIns := [], harness := (true, "b1b99e4aaa896bd552991ca559c9f006fd6890c870dfe717214d73ac175b8ba5"), looks := true }, kinds := [], alts := [], laidByText := true, laidKinds := [.data, .listed, .data, .pinned], laidTests := true, laidLooks := .later }
def ImageKeepsCardSaid : Prop := Claim7.holds Tryz.pinned (.plain (OpenSpec.ofChange imageKeepsSpec)) imageKeepsCard

/-- THE TIED CARD OF 'quirelaw20.ImageBack'. -/
def imageBackCard : Claim7 := { stood := { row := imageBackRow, standIns := [], harness := (true, "b1b99e4aaa896bd552991ca559c9f006fd6890c870dfe717214d73ac175b8ba5"), looks := true }, kinds := [], alts := [], laidByText := true, laidKinds := [.data, .listed, .data, .pinned], laidTests := true, laidLooks := .later }
def ImageBackCardSaid : Prop := Claim7.holds Tryz.pinned (.plain (OpenSpec.ofChange imageBackSpec)) imageBackCard

/-- THE TIED CARD OF 'quirelaw20.ImageStored'. -/
def imageStoredCard : Claim7 := { stood := { row := imageStoredRow, standIns := [], harness := (true, "b1b99e4aaa896bd552991ca559c9f006fd6890c870dfe717214d73ac175b8ba5"), looks := true }, kinds := [], alts := [], laidByText := true, laidKinds := [.data, .listed, .data, .pinned], laidTests := true, laidLooks := .later }
def ImageStoredCardSaid : Prop := Claim7.holds Tryz.pinned (.plain (OpenSpec.ofChange imageStoredSpec)) imageStoredCard

/-- THE SECOND FORM's CARD OF 'quirelaw20.ImageSmall'. -/
def imageSmallUptoCard : Claim7 := { stood := { row := imageSmallUptoRow, standIns := [], harness := (true, "b1b99e4aaa896bd552991ca559c9f006fd6890c870dfe717214d73ac175b8ba5"), looks := true }, kinds := [], alts := [], laidByText := true, laidKinds := [.data, .listed, .data, .pinned], laidTests := true, laidLooks := .later }
def ImageSmallUptoCardSaid : Prop := Claim7.holds Tryz.pinned (.plain (OpenSpec.upto imageSmallSpec)) imageSmallUptoCard

/-- THE SECOND FORM's CARD OF 'quirelaw20.ImageApart'. -/
def imageApartUptoCard : Claim7 := { stood := { row := imageApartUptoRow, standIns := [], harness := (true, "b1b99e4aaa896bd552991ca559c9f006fd6890c870dfe717214d73ac175b8ba5"), looks := true }, kinds := [], alts := [], laidByText := true, laidKinds := [.data, .listed, .data, .pinned], laidTests := true, laidLooks := .later }
def ImageApartUptoCardSaid : Prop := Claim7.holds Tryz.pinned (.plain (OpenSpec.upto imageApartSpec)) imageApartUptoCard

/-- THE SECOND FORM's CARD OF 'quirelaw20.ImageReads'. -/
def imageReadsUptoCard : Claim7 := { stood := { row := imageReadsUptoRow, standIns := [], harness := (true, "b1b99e4aaa896bd552991ca559c9f006fd6890c870dfe717214d73ac175b8ba5"), looks := true }, kinds := [], alts := [], laidByText := true, laidKinds := [.data, .listed, .data, .pinned], laidTests := true, laidLooks := .later }
def ImageReadsUptoCardSaid : Prop := Claim7.holds Tryz.pinned (.plain (OpenSpec.upto imageReadsSpec)) imageReadsUptoCard

/-- THE SECOND FORM's CARD OF 'quirelaw20.ImageSpoilt'. -/
def imageSpoiltUptoCard : Claim7 := { stood := { row := imageSpoiltUptoRow, standIns := [], harness := (true, "b1b99e4aaa896bd552991ca559c9f006fd6890c870dfe717214d73ac175b8ba5"), looks := true }, kinds := [], alts := [], laidByText := true, laidKinds := [.data, .listed, .data, .pinned], laidTests := true, laidLooks := .later }
def ImageSpoiltUptoCardSaid : Prop := Claim7.holds Tryz.pinned (.plain (OpenSpec.upto imageSpoiltSpec)) imageSpoiltUptoCard

/-- THE SECOND FORM's CARD OF 'quirelaw20.ImageKeeps'. -/
def imageKeepsUptoCard : Claim7 := { stood := { row := imageKeepsUptoRow, standIns := [], harness := (true, "b1b99e4aaa896bd552991ca559c9f006fd6890c870dfe717214d73ac175b8ba5"), looks := true }, kinds := [], alts := [], laidByText := true, laidKinds := [.data, .listed, .data, .pinned], laidTests := true, laidLooks := .later }
def ImageKeepsUptoCardSaid : Prop := Claim7.holds Tryz.pinned (.plain (OpenSpec.upto imageKeepsSpec)) imageKeepsUptoCard

/-- THE SECOND FORM's CARD OF 'quirelaw20.ImageBack'. -/
def imageBackUptoCard : Claim7 := { stood := { row := imageBackUptoRow, standIns := [], harness := (true, "b1b99e4aaa896bd552991ca559c9f006fd6890c870dfe717214d73ac175b8ba5"), looks := true }, kinds := [], alts := [], laidByText := true, laidKinds := [.data, .listed, .data, .pinned], laidTests := true, laidLooks := .later }
def ImageBackUptoCardSaid : Prop := Claim7.holds Tryz.pinned (.plain (OpenSpec.upto imageBackSpec)) imageBackUptoCard

/-- THE SECOND FORM's CARD OF 'quirelaw20.ImageStored'. -/
def imageStoredUptoCard : Claim7 := { stood := { row := imageStoredUptoRow, standIns := [], harness := (true, "b1b99e4aaa896bd552991ca559c9f006fd6890c870dfe717214d73ac175b8ba5"), looks := true }, kinds := [], alts := [], laidByText := true, laidKinds := [.data, .listed, .data, .pinned], laidTests := true, laidLooks := .later }
def ImageStoredUptoCardSaid : Prop := Claim7.holds Tryz.pinned (.plain (OpenSpec.upto imageStoredSpec)) imageStoredUptoCard
end Rows
end Go.Proofs.YtmmefmebkgcpfaaGreatDoor
