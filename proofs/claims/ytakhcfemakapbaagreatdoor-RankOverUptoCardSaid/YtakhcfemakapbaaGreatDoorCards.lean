/-
  DERIVED. GIVEN WITH THE SEED: THE CARDS: each row of YtakhcfemakapbaaGreatDoorRows.lean that lists a variable, with what it lists TIED to the program's text (the seventh form; the later family's looks); each row that meets fmt, with fmt's text TOLD by the authors' own Lean function (tested against real Go, not proved from fmt's source: count such statements apart). THE CARD IS WHAT COUNTS. Prove the row's statement (the work); the ties are given (YtakhcfemakapbaaGreatDoorTie.lean); close each card by the builder's one call (the guide's Derived/Test/ToyasCard.lean, 'card_holds'). Laid BY PROGRAM, IN A SANDBOX (cutbox-door.mjs). By AI agents, Wed Nov 11 2026. No macro, syntax, notation, axiom, sorry.
-/
import Derived.Test.YtakhcfemakapbaaGreatDoorRows
import GoSem.ClaimSeven
namespace Go.Proofs.YtakhcfemakapbaaGreatDoor
namespace Rows

/-- THE TIED CARD OF 'covenantlaw12.RankOf'. -/
def rankOfCard : Claim7 := { stood := { row := rankOfRow, standIns := [], harness := (true, "a375284386c88bf06b158adfc173440351546e7409bd70d52e8f0afd6bc334f0"), looks := true }, kinds := [], alts := [], laidByText := true, laidKinds := [.data, .data, .data, .sentinel, .sentinel], laidTests := true, laidLooks := .later }
def RankOfCardSaid : Prop := Claim7.holds Tryz.pinned (.plain (OpenSpec.ofChange rankOfSpec)) rankOfCard

/-- THE TIED CARD OF 'covenantlaw12.RankPlays'. -/
def rankPlaysCard : Claim7 := { stood := { row := rankPlaysRow, standIns := [], harness := (true, "a375284386c88bf06b158adfc173440351546e7409bd70d52e8f0afd6bc334f0"), looks := true }, kinds := [], alts := [], laidByText := true, laidKinds := [.data, .data, .data, .sentinel, .sentinel], laidTests := true, laidLooks := .later }
def RankPlaysCardSaid : Prop := Claim7.holds Tryz.pinned (.plain (OpenSpec.ofChange rankPlaysSpec)) rankPlaysCard

/-- THE TIED CARD OF 'covenantlaw12.RankTexts'. -/
def rankTextsCard : Claim7 := { stood := { row := rankTextsRow, standIns := [], harness := (true, "a375284386c88bf06b158adfc173440351546e7409bd70d52e8f0afd6bc334f0"), looks := true }, kinds := [], alts := [], laidByText := true, laidKinds := [.data, .data, .data, .sentinel, .sentinel], laidTests := true, laidLooks := .later }
def RankTextsCardSaid : Prop := Claim7.holds Tryz.pinned (.plain (OpenSpec.ofChange rankTextsSpec)) rankTextsCard

/-- THE TIED CARD OF 'covenantlaw12.RankPlaces'. -/
def rankPlacesCard : Claim7 := { stood := { row := rankPlacesRow, standIns := [], harness := (true, "a375284386c88bf06b158adfc173440351546e7409bd70d52e8f0afd6bc334f0"), looks := true }, kinds := [], alts := [], laidByText := true, laidKinds := [.data, .data, .data, .sentinel, .sentinel], laidTests := true, laidLooks := .later }
def RankPlacesCardSaid : Prop := Claim7.holds Tryz.pinned (.plain (OpenSpec.ofChange rankPlacesSpec)) rankPlacesCard

/-- THE TIED CARD OF 'covenantlaw12.RankParts'. -/
def rankPartsCard : Claim7 := { stood := { row := rankPartsRow, standIns := [], harness := (true, "a375284386c88bf06b158adfc173440351546e7409bd70d52e8f0afd6bc334f0"), looks := true }, kinds := [], alts := [], laidByText := true, laidKinds := [.data, .data, .data, .sentinel, .sentinel], laidTests := true, laidLooks := .later }
def RankPartsCardSaid : Prop := Claim7.holds Tryz.pinned (.plain (OpenSpec.ofChange rankPartsSpec)) rankPartsCard

/-- THE TIED CARD OF 'covenantlaw12.RankPops'. -/
def rankPopsCard : Claim7 := { stood := { row := rankPopsRow, standIns := [], harness := (true, "a375284386c88bf06b158adfc173440351546e7409bd70d52e8f0afd6bc334f0"), looks := true }, kinds := [], alts := [], laidByText := true, laidKinds := [.data, .data, .data, .sentinel, .sentinel], laidTests := true, laidLooks := .later }
def RankPopsCardSaid : Prop := Claim7.holds Tryz.pinned (.plain (OpenSpec.ofChange rankPopsSpec)) rankPopsCard

/-- THE TIED CARD OF 'covenantlaw12.RankOver'. -/
def rankOverCard : Claim7 := { stood := { row := rankOverRow, standIns := [], harness := (true, "a375284386c88bf06b158adfc173440351546e7409bd70d52e8f0afd6bc334f0"), looks := true }, kinds := [], alts := [], laidByText := true, laidKinds := [.data, .data, .data, .sentinel, .sentinel], laidTests := true, laidLooks := .later }
def RankOverCardSaid : Prop := Claim7.holds Tryz.pinned (.plain (OpenSpec.ofChange rankOverSpec)) rankOverCard

/-- THE SECOND FORM's CARD OF 'covenantlaw12.RankOf'. -/
def rankOfUptoCard : Claim7 := { stood := { row := rankOfUptoRow, standIns := [], harness := (true, "a375284386c88bf06b158adfc173440351546e7409bd70d52e8f0afd6bc334f0"), looks := true }, kinds := [], alts := [], laidByText := true, laidKinds := [.data, .data, .data, .sentinel, .sentinel], laidTests := true, laidLooks := .later }
def RankOfUptoCardSaid : Prop := Claim7.holds Tryz.pinned (.plain (OpenSpec.upto rankOfSpec)) rankOfUptoCard

/-- THE SECOND FORM's CARD OF 'covenantlaw12.RankPlays'. -/
def rankPlaysUptoCard : Claim7 := { stood := { row := rankPlaysUptoRow, standIns := [], harness := (true, "a375284386c88bf06b158adfc173440351546e7409bd70d52e8f0afd6bc334f0"), looks := true }, kinds := [], alts := [], laidByText := true, laidKinds := [.data, .data, .data, .sentinel, .sentinel], laidTests := true, laidLooks := .later }
def RankPlaysUptoCardSaid : Prop := Claim7.holds Tryz.pinned (.plain (OpenSpec.upto rankPlaysSpec)) rankPlaysUptoCard

/-- THE SECOND FORM's CARD OF 'covenantlaw12.RankTexts'. -/
def rankTextsUptoCard : Claim7 := { stood := { row := rankTextsUptoRow, standIns := [], harness := (true, "a375284386c88bf06b158adfc173440351546e7409bd70d52e8f0afd6bc334f0"), looks := true }, kinds := [], alts := [], laidByText := true, laidKinds := [.data, .data, .data, .sentinel, .sentinel], laidTests := true, laidLooks := .later }
def RankTextsUptoCardSaid : Prop := Claim7.holds Tryz.pinned (.plain (OpenSpec.upto rankTextsSpec)) rankTextsUptoCard

/-- THE SECOND FORM's CARD OF 'covenantlaw12.RankPlaces'. -/
def rankPlacesUptoCard : Claim7 := { stood := { row := rankPlacesUptoRow, standIns := [], harness := (true, "a375284386c88bf06b158adfc173440351546e7409bd70d52e8f0afd6bc334f0"), looks := true }, kinds := [], alts := [], laidByText := true, laidKinds := [.data, .data, .data, .sentinel, .sentinel], laidTests := true, laidLooks := .later }
def RankPlacesUptoCardSaid : Prop := Claim7.holds Tryz.pinned (.plain (OpenSpec.upto rankPlacesSpec)) rankPlacesUptoCard

/-- THE SECOND FORM's CARD OF 'covenantlaw12.RankParts'. -/
def rankPartsUptoCard : Claim7 := { stood := { row := rankPartsUptoRow, standIns := [], harness := (true, "a375284386c88bf06b158adfc173440351546e7409bd70d52e8f0afd6bc334f0"), looks := true }, kinds := [], alts := [], laidByText := true, laidKinds := [.data, .data, .data, .sentinel, .sentinel], laidTests := true, laidLooks := .later }
def RankPartsUptoCardSaid : Prop := Claim7.holds Tryz.pinned (.plain (OpenSpec.upto rankPartsSpec)) rankPartsUptoCard

/-- THE SECOND FORM's CARD OF 'covenantlaw12.RankPops'. -/
def rankPopsUptoCard : Claim7 := { stood := { row := rankPopsUptoRow, standIns := [], harness := (true, "a375284386c88bf06b158adfc173440351546e7409bd70d52e8f0afd6bc334f0"), looks := true }, kinds := [], alts := [], laidByText := true, laidKinds := [.data, .data, .data, .sentinel, .sentinel], laidTests := true, laidLooks := .later }
def RankPopsUptoCardSaid : Prop := Claim7.holds Tryz.pinned (.plain (OpenSpec.upto rankPopsSpec)) rankPopsUptoCard

/-- THE SECOND FORM's CARD OF 'covenantlaw12.RankOver'. -/
def rankOverUptoCard : Claim7 := { stood := { row := rankOverUptoRow, standIns := [], harness := (true, "a375284386c88bf06b158adfc173440351546e7409bd70d52e8f0afd6bc334f0"), looks := true }, kinds := [], alts := [], laidByText := true, laidKinds := [.data, .data, .data, .sentinel, .sentinel], laidTests := true, laidLooks := .later }
def RankOverUptoCardSaid : Prop := Claim7.holds Tryz.pinned (.plain (OpenSpec.upto rankOverSpec)) rankOverUptoCard
end Rows
end Go.Proofs.YtakhcfemakapbaaGreatDoor
