/-
  DERIVED. GIVEN WITH THE SEED: THE CARDS: each row of YtakhcfemakapbaaDoorRows.lean that lists a variable, with what it lists TIED to the program's text (the seventh form; the later family's looks); each row that meets fmt, with fmt's text TOLD by the authors' own Lean function (tested against real Go, not proved from fmt's source: count such statements apart). THE CARD IS WHAT COUNTS. Prove the row's statement (the work); the ties are given (YtakhcfemakapbaaDoorTie.lean); close each card by the builder's one call (the guide's Derived/Test/ToyasCard.lean, 'card_holds'). Laid BY PROGRAM, IN A SANDBOX (cutbox-door.mjs). By AI agents, Wed Nov 11 2026. No macro, syntax, notation, axiom, sorry.
-/
import Derived.Test.YtakhcfemakapbaaDoorRows
import GoSem.ClaimSeven
namespace Go.Proofs.YtakhcfemakapbaaDoor
namespace Rows

/-- THE TIED CARD OF 'covenantlaw12.RankNobody'. -/
def rankNobodyCard : Claim7 := { stood := { row := rankNobodyRow, standIns := [], harness := (true, "9a8d1b55578647be977dccb8de5b39312675699978396c8ff0aa870515c9be8d"), looks := true }, kinds := [], alts := [], laidByText := true, laidKinds := [.data, .data, .data, .sentinel, .sentinel], laidTests := true, laidLooks := .later }
def RankNobodyCardSaid : Prop := Claim7.holds Tryd.pinned (.plain (OpenSpec.ofChange rankNobodySpec)) rankNobodyCard

/-- THE SECOND FORM's CARD OF 'covenantlaw12.RankNobody'. -/
def rankNobodyUptoCard : Claim7 := { stood := { row := rankNobodyUptoRow, standIns := [], harness := (true, "9a8d1b55578647be977dccb8de5b39312675699978396c8ff0aa870515c9be8d"), looks := true }, kinds := [], alts := [], laidByText := true, laidKinds := [.data, .data, .data, .sentinel, .sentinel], laidTests := true, laidLooks := .later }
def RankNobodyUptoCardSaid : Prop := Claim7.holds Tryd.pinned (.plain (OpenSpec.upto rankNobodySpec)) rankNobodyUptoCard
end Rows
end Go.Proofs.YtakhcfemakapbaaDoor
