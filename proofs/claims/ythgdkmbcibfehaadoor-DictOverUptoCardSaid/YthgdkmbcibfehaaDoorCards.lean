/-
  DERIVED. GIVEN WITH THE SEED: THE CARDS: each row of YthgdkmbcibfehaaDoorRows.lean that lists a variable, with what it lists TIED to the program's text (the seventh form; the later family's looks); each row that meets fmt, with fmt's text TOLD by the authors' own Lean function (tested against real Go, not proved from fmt's source: count such statements apart). THE CARD IS WHAT COUNTS. Prove the row's statement (the work); the ties are given (YthgdkmbcibfehaaDoorTie.lean); close each card by the builder's one call (the guide's Derived/Test/ToyasCard.lean, 'card_holds'). Laid BY PROGRAM, IN A SANDBOX (cutbox-door.mjs). By AI agents, Wed Nov 11 2026. No macro, syntax, notation, axiom, sorry.
-/
import Derived.Test.YthgdkmbcibfehaaDoorRows
import GoSem.ClaimSeven
namespace Go.Proofs.YthgdkmbcibfehaaDoor
namespace Rows

/-- THE TIED CARD OF 'covenantlaw10.DictPlays'. -/
def dictPlaysCard : Claim7 := { stood := { row := dictPlaysRow, standIns := [], harness := (true, "48375dfa788b6a1ea3c1741623d23b2fe486b1f79c1900e4fa0710a45c00d259"), looks := true }, kinds := [], alts := [], laidByText := true, laidKinds := [.data, .data, .data, .sentinel, .sentinel], laidTests := true, laidLooks := .later }
def DictPlaysCardSaid : Prop := Claim7.holds Tryd.pinned (.plain (OpenSpec.ofChange dictPlaysSpec)) dictPlaysCard

/-- THE TIED CARD OF 'covenantlaw10.DictNobody'. -/
def dictNobodyCard : Claim7 := { stood := { row := dictNobodyRow, standIns := [], harness := (true, "48375dfa788b6a1ea3c1741623d23b2fe486b1f79c1900e4fa0710a45c00d259"), looks := true }, kinds := [], alts := [], laidByText := true, laidKinds := [.data, .data, .data, .sentinel, .sentinel], laidTests := true, laidLooks := .later }
def DictNobodyCardSaid : Prop := Claim7.holds Tryd.pinned (.plain (OpenSpec.ofChange dictNobodySpec)) dictNobodyCard

/-- THE TIED CARD OF 'covenantlaw10.DictBack'. -/
def dictBackCard : Claim7 := { stood := { row := dictBackRow, standIns := [], harness := (true, "48375dfa788b6a1ea3c1741623d23b2fe486b1f79c1900e4fa0710a45c00d259"), looks := true }, kinds := [], alts := [], laidByText := true, laidKinds := [.data, .data, .data, .sentinel, .sentinel], laidTests := true, laidLooks := .later }
def DictBackCardSaid : Prop := Claim7.holds Tryd.pinned (.plain (OpenSpec.ofChange dictBackSpec)) dictBackCard

/-- THE TIED CARD OF 'covenantlaw10.DictWalk'. -/
def dictWalkCard : Claim7 := { stood := { row := dictWalkRow, standIns := [], harness := (true, "48375dfa788b6a1ea3c1741623d23b2fe486b1f79c1900e4fa0710a45c00d259"), looks := true }, kinds := [], alts := [], laidByText := true, laidKinds := [.data, .data, .data, .sentinel, .sentinel], laidTests := true, laidLooks := .later }
def DictWalkCardSaid : Prop := Claim7.holds Tryd.pinned (.plain (OpenSpec.ofChange dictWalkSpec)) dictWalkCard

/-- THE TIED CARD OF 'covenantlaw10.DictOver'. -/
def dictOverCard : Claim7 := { stood := { row := dictOverRow, standIns := [], harness := (true, "48375dfa788b6a1ea3c1741623d23b2fe486b1f79c1900e4fa0710a45c00d259"), looks := true }, kinds := [], alts := [], laidByText := true, laidKinds := [.data, .data, .data, .sentinel, .sentinel], laidTests := true, laidLooks := .later }
def DictOverCardSaid : Prop := Claim7.holds Tryd.pinned (.plain (OpenSpec.ofChange dictOverSpec)) dictOverCard

/-- THE SECOND FORM's CARD OF 'covenantlaw10.DictPlays'. -/
def dictPlaysUptoCard : Claim7 := { stood := { row := dictPlaysUptoRow, standIns := [], harness := (true, "48375dfa788b6a1ea3c1741623d23b2fe486b1f79c1900e4fa0710a45c00d259"), looks := true }, kinds := [], alts := [], laidByText := true, laidKinds := [.data, .data, .data, .sentinel, .sentinel], laidTests := true, laidLooks := .later }
def DictPlaysUptoCardSaid : Prop := Claim7.holds Tryd.pinned (.plain (OpenSpec.upto dictPlaysSpec)) dictPlaysUptoCard

/-- THE SECOND FORM's CARD OF 'covenantlaw10.DictNobody'. -/
def dictNobodyUptoCard : Claim7 := { stood := { row := dictNobodyUptoRow, standIns := [], harness := (true, "48375dfa788b6a1ea3c1741623d23b2fe486b1f79c1900e4fa0710a45c00d259"), looks := true }, kinds := [], alts := [], laidByText := true, laidKinds := [.data, .data, .data, .sentinel, .sentinel], laidTests := true, laidLooks := .later }
def DictNobodyUptoCardSaid : Prop := Claim7.holds Tryd.pinned (.plain (OpenSpec.upto dictNobodySpec)) dictNobodyUptoCard

/-- THE SECOND FORM's CARD OF 'covenantlaw10.DictBack'. -/
def dictBackUptoCard : Claim7 := { stood := { row := dictBackUptoRow, standIns := [], harness := (true, "48375dfa788b6a1ea3c1741623d23b2fe486b1f79c1900e4fa0710a45c00d259"), looks := true }, kinds := [], alts := [], laidByText := true, laidKinds := [.data, .data, .data, .sentinel, .sentinel], laidTests := true, laidLooks := .later }
def DictBackUptoCardSaid : Prop := Claim7.holds Tryd.pinned (.plain (OpenSpec.upto dictBackSpec)) dictBackUptoCard

/-- THE SECOND FORM's CARD OF 'covenantlaw10.DictWalk'. -/
def dictWalkUptoCard : Claim7 := { stood := { row := dictWalkUptoRow, standIns := [], harness := (true, "48375dfa788b6a1ea3c1741623d23b2fe486b1f79c1900e4fa0710a45c00d259"), looks := true }, kinds := [], alts := [], laidByText := true, laidKinds := [.data, .data, .data, .sentinel, .sentinel], laidTests := true, laidLooks := .later }
def DictWalkUptoCardSaid : Prop := Claim7.holds Tryd.pinned (.plain (OpenSpec.upto dictWalkSpec)) dictWalkUptoCard

/-- THE SECOND FORM's CARD OF 'covenantlaw10.DictOver'. -/
def dictOverUptoCard : Claim7 := { stood := { row := dictOverUptoRow, standIns := [], harness := (true, "48375dfa788b6a1ea3c1741623d23b2fe486b1f79c1900e4fa0710a45c00d259"), looks := true }, kinds := [], alts := [], laidByText := true, laidKinds := [.data, .data, .data, .sentinel, .sentinel], laidTests := true, laidLooks := .later }
def DictOverUptoCardSaid : Prop := Claim7.holds Tryd.pinned (.plain (OpenSpec.upto dictOverSpec)) dictOverUptoCard
end Rows
end Go.Proofs.YthgdkmbcibfehaaDoor
