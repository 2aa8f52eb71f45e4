/-
  No cell of these rows narrows 'for every input' (looked for: loops, veiled, ifaces, maps, wideKeys, modest, calm, conditions, laid).
  DERIVED. THE GIVEN ROWS OF THIS SEAT. 7 by the template 'for every input the law returns true; each argument reads behind the call as it read before'; 0 by the template 'total and deterministic' (their statements: YtgbgdgncdanblaaTotals.lean).
  GIVEN WITH THE SEED: the statements are not yours to turn. If you find one false, say at which input.
  Laid BY PROGRAM, IN A SANDBOX (cutbox-rows.mjs): the forced cells as the released guide's own fill.sh prints them over the translation aea299cbdebd1ccb… (all of the seat's roots in one cut). By AI agents, Wed Nov 11 2026. No macro, syntax, notation, axiom, sorry.
-/
import Derived.Test.YtgbgdgncdanblaaChecked
import GoSem.Claim
import GoSem.ClaimJoined
import GoSem.ClaimMapViews
import Derived.JoinedTies
import Derived.KernelRfl
namespace Go.Proofs.Ytgbgdgncdanblaa
/- THE CELL 'sum', in the pinned program and in every row, IS THE sha256 OF THE DUMP (.gsa) THAT YtgbgdgncdanblaaProg.lean LOADS. Nothing in Lean hashes anything: it is a label: what it is worth is what the hold of that sum in a sandbox is worth. -/
noncomputable def Try.pinned : Pinned := { name := "ytgbgdgncdanblaa", sum := "aea299cbdebd1ccb64c6ca2007ac0ad947c4bfb5596c600e6a6ec128160b3558", checked := Try.checked }
namespace Rows
def none {H : Type} : Left H := { results := [], args := [] }

/-- 'covenantlaw09.DequeFinds': WHATEVER THE INPUT: true; the input reads as it did. -/
def dequeFindsSpec : ChangeSpec := { name := "dequeFinds", fn := fun _ => fun
  | [d1, d2] => { results := [.lit (.bool true)], args := [d1, d2] }
  | _ => none }
def dequeFindsRow : OpenClaim := { program := "ytgbgdgncdanblaa", sum := "aea299cbdebd1ccb64c6ca2007ac0ad947c4bfb5596c600e6a6ec128160b3558", func := "covenant/covenantlaw09.DequeFinds", spec := "dequeFinds", inPlace := ["slices.overlaps[int]"], apart := false }
def DequeFindsSaid : Prop := dequeFindsRow.holds Try.pinned (OpenSpec.ofChange dequeFindsSpec)

/-- ITS FALSE NEIGHBOUR: 'it returns false'. Refute it at one input. -/
def dequeFindsWrong : ChangeSpec := { name := "dequeFinds", fn := fun _ => fun
  | [d1, d2] => { results := [.lit (.bool false)], args := [d1, d2] }
  | _ => none }
def DequeFindsWrongFalsely : Prop := dequeFindsRow.holds Try.pinned (OpenSpec.ofChange dequeFindsWrong)

/-- 'covenantlaw09.DequePieces': WHATEVER THE INPUT: true; the input reads as it did. -/
def dequePiecesSpec : ChangeSpec := { name := "dequePieces", fn := fun _ => fun
  | [d1, d2] => { results := [.lit (.bool true)], args := [d1, d2] }
  | _ => none }
def dequePiecesRow : OpenClaim := { program := "ytgbgdgncdanblaa", sum := "aea299cbdebd1ccb64c6ca2007ac0ad947c4bfb5596c600e6a6ec128160b3558", func := "covenant/covenantlaw09.DequePieces", spec := "dequePieces", inPlace := ["slices.overlaps[int]"], apart := false }
def DequePiecesSaid : Prop := dequePiecesRow.holds Try.pinned (OpenSpec.ofChange dequePiecesSpec)

/-- ITS FALSE NEIGHBOUR: 'it returns false'. Refute it at one input. -/
def dequePiecesWrong : ChangeSpec := { name := "dequePieces", fn := fun _ => fun
  | [d1, d2] => { results := [.lit (.bool false)], args := [d1, d2] }
  | _ => none }
def DequePiecesWrongFalsely : Prop := dequePiecesRow.holds Try.pinned (OpenSpec.ofChange dequePiecesWrong)

/-- 'covenantlaw09.DequeEnds': WHATEVER THE INPUT: true; the input reads as it did. -/
def dequeEndsSpec : ChangeSpec := { name := "dequeEnds", fn := fun _ => fun
  | [d1, d2] => { results := [.lit (.bool true)], args := [d1, d2] }
  | _ => none }
def dequeEndsRow : OpenClaim := { program := "ytgbgdgncdanblaa", sum := "aea299cbdebd1ccb64c6ca2007ac0ad947c4bfb5596c600e6a6ec128160b3558", func := "covenant/covenantlaw09.DequeEnds", spec := "dequeEnds", inPlace := ["slices.overlaps[int]"], apart := false }
def DequeEndsSaid : Prop := dequeEndsRow.holds Try.pinned (OpenSpec.ofChange dequeEndsSpec)

/-- ITS FALSE NEIGHBOUR: 'it returns false'. Refute it at one input. -/
def dequeEndsWrong : ChangeSpec := { name := "dequeEnds", fn := fun _ => fun
  | [d1, d2] => { results := [.lit (.bool false)], args := [d1, d2] }
  | _ => none }
def DequeEndsWrongFalsely : Prop := dequeEndsRow.holds Try.pinned (OpenSpec.ofChange dequeEndsWrong)

/-- 'covenantlaw09.DequeTexts': WHATEVER THE INPUT: true; the input reads as it did. -/
def dequeTextsSpec : ChangeSpec := { name := "dequeTexts", fn := fun _ => fun
  | [d1, d2] => { results := [.lit (.bool true)], args := [d1, d2] }
  | _ => none }
def dequeTextsRow : OpenClaim := { program := "ytgbgdgncdanblaa", sum := "aea299cbdebd1ccb64c6ca2007ac0ad947c4bfb5596c600e6a6ec128160b3558", func := "covenant/covenantlaw09.DequeTexts", spec := "dequeTexts", inPlace := ["slices.overlaps[int]", "slices.overlaps[string]"], apart := false }
def DequeTextsSaid : Prop := dequeTextsRow.holds Try.pinned (OpenSpec.ofChange dequeTextsSpec)

/-- ITS FALSE NEIGHBOUR: 'it returns false'. Refute it at one input. -/
def dequeTextsWrong : ChangeSpec := { name := "dequeTexts", fn := fun _ => fun
  | [d1, d2] => { results := [.lit (.bool false)], args := [d1, d2] }
  | _ => none }
def DequeTextsWrongFalsely : Prop := dequeTextsRow.holds Try.pinned (OpenSpec.ofChange dequeTextsWrong)

/-- 'covenantlaw09.DequeDoes': WHATEVER THE INPUT: true; the input reads as it did. -/
def dequeDoesSpec : ChangeSpec := { name := "dequeDoes", fn := fun _ => fun
  | [d1, d2] => { results := [.lit (.bool true)], args := [d1, d2] }
  | _ => none }
def dequeDoesRow : OpenClaim := { program := "ytgbgdgncdanblaa", sum := "aea299cbdebd1ccb64c6ca2007ac0ad947c4bfb5596c600e6a6ec128160b3558", func := "covenant/covenantlaw09.DequeDoes", spec := "dequeDoes", inPlace := ["slices.overlaps[int]"], apart := false }
def DequeDoesSaid : Prop := dequeDoesRow.holds Try.pinned (OpenSpec.ofChange dequeDoesSpec)

/-- ITS FALSE NEIGHBOUR: 'it returns false'. Refute it at one input. -/
def dequeDoesWrong : ChangeSpec := { name := "dequeDoes", fn := fun _ => fun
  | [d1, d2] => { results := [.lit (.bool false)], args := [d1, d2] }
  | _ => none }
def DequeDoesWrongFalsely : Prop := dequeDoesRow.holds Try.pinned (OpenSpec.ofChange dequeDoesWrong)

/-- 'covenantlaw09.DequeWalks': WHATEVER THE INPUT: true; the input reads as it did. -/
def dequeWalksSpec : ChangeSpec := { name := "dequeWalks", fn := fun _ => fun
  | [d1, d2] => { results := [.lit (.bool true)], args := [d1, d2] }
  | _ => none }
def dequeWalksRow : OpenClaim := { program := "ytgbgdgncdanblaa", sum := "aea299cbdebd1ccb64c6ca2007ac0ad947c4bfb5596c600e6a6ec128160b3558", func := "covenant/covenantlaw09.DequeWalks", spec := "dequeWalks", inPlace := ["slices.overlaps[int]"], unfollowed := true, recurses := true, apart := false }
def DequeWalksSaid : Prop := dequeWalksRow.holds Try.pinned (OpenSpec.ofChange dequeWalksSpec)

/-- ITS FALSE NEIGHBOUR: 'it returns false'. Refute it at one input. -/
def dequeWalksWrong : ChangeSpec := { name := "dequeWalks", fn := fun _ => fun
  | [d1, d2] => { results := [.lit (.bool false)], args := [d1, d2] }
  | _ => none }
def DequeWalksWrongFalsely : Prop := dequeWalksRow.holds Try.pinned (OpenSpec.ofChange dequeWalksWrong)

/-- 'covenantlaw09.DequeOwn': WHATEVER THE INPUT: true; the input reads as it did. -/
def dequeOwnSpec : ChangeSpec := { name := "dequeOwn", fn := fun _ => fun
  | [d1, d2] => { results := [.lit (.bool true)], args := [d1, d2] }
  | _ => none }
def dequeOwnRow : OpenClaim := { program := "ytgbgdgncdanblaa", sum := "aea299cbdebd1ccb64c6ca2007ac0ad947c4bfb5596c600e6a6ec128160b3558", func := "covenant/covenantlaw09.DequeOwn", spec := "dequeOwn", inPlace := ["slices.overlaps[int]"], unfollowed := true, recurses := true, apart := false }
def DequeOwnSaid : Prop := dequeOwnRow.holds Try.pinned (OpenSpec.ofChange dequeOwnSpec)

/-- ITS FALSE NEIGHBOUR: 'it returns false'. Refute it at one input. -/
def dequeOwnWrong : ChangeSpec := { name := "dequeOwn", fn := fun _ => fun
  | [d1, d2] => { results := [.lit (.bool false)], args := [d1, d2] }
  | _ => none }
def DequeOwnWrongFalsely : Prop := dequeOwnRow.holds Try.pinned (OpenSpec.ofChange dequeOwnWrong)

/- THE SECOND FORM. 'bulk': how many values and letters a reading holds, each counted each time it is reached (what is shared counts as often as it is met; a slice's spare places count too). A statement '..UptoSaid' is the law's where the arguments, and the package variables that the reading takes, are together of bulk at most 1048576: NARROWER than '..Said'. Prove '..Said' where nothing that the law and all that it calls make is longer than what came in: it says more and counts as full. Else prove '..UptoSaid'. A law counts once. -/
mutual
def uptoBulk {H : Type} : DataW H → Nat
  | .lit (.string bytes) => bytes.length + 1
  | .lit _ => 1
  | .nil => 1
  | .ptr d => uptoBulk d + 1
  | .slice elems spare => uptoBulkAll elems + uptoBulkAll spare + 1
  | .agg parts => uptoBulkAll parts + 1
  | .iface _ d => uptoBulk d + 1
  | .map entries => uptoBulkEntries entries + 1
  | .held _ => 1
def uptoBulkAll {H : Type} : List (DataW H) → Nat
  | [] => 0
  | d :: r => uptoBulk d + uptoBulkAll r
def uptoBulkEntries {H : Type} : List (Lit × DataW H) → Nat
  | [] => 0
  | x :: r => uptoBulkEntry x + uptoBulkEntries r
def uptoBulkEntry {H : Type} : Lit × DataW H → Nat
  | (.string bytes, d) => bytes.length + uptoBulk d + 1
  | (_, d) => uptoBulk d + 1
 end
def uptoSmall : (H : Type) → List (DataW H) → Bool := fun _ ds => decide (uptoBulkAll ds ≤ 1048576)
def OpenSpec.upto (s : _root_.Go.ChangeSpec) : _root_.Go.OpenSpec := { _root_.Go.OpenSpec.ofChange s with cond := some uptoSmall }

/-- 'covenantlaw09.DequeFinds', WHERE WHAT IT READS IS OF BULK AT MOST 1048576: true; the input reads as it did. -/
def dequeFindsUptoRow : OpenClaim := { program := "ytgbgdgncdanblaa", sum := "aea299cbdebd1ccb64c6ca2007ac0ad947c4bfb5596c600e6a6ec128160b3558", func := "covenant/covenantlaw09.DequeFinds", spec := "dequeFinds", inPlace := ["slices.overlaps[int]"], apart := false, narrowed := true }
def DequeFindsUptoSaid : Prop := dequeFindsUptoRow.holds Try.pinned (OpenSpec.upto dequeFindsSpec)

/-- 'covenantlaw09.DequePieces', WHERE WHAT IT READS IS OF BULK AT MOST 1048576: true; the input reads as it did. -/
def dequePiecesUptoRow : OpenClaim := { program := "ytgbgdgncdanblaa", sum := "aea299cbdebd1ccb64c6ca2007ac0ad947c4bfb5596c600e6a6ec128160b3558", func := "covenant/covenantlaw09.DequePieces", spec := "dequePieces", inPlace := ["slices.overlaps[int]"], apart := false, narrowed := true }
def DequePiecesUptoSaid : Prop := dequePiecesUptoRow.holds Try.pinned (OpenSpec.upto dequePiecesSpec)

/-- 'covenantlaw09.DequeEnds', WHERE WHAT IT READS IS OF BULK AT MOST 1048576: true; the input reads as it did. -/
def dequeEndsUptoRow : OpenClaim := { program := "ytgbgdgncdanblaa", sum := "aea299cbdebd1ccb64c6ca2007ac0ad947c4bfb5596c600e6a6ec128160b3558", func := "covenant/covenantlaw09.DequeEnds", spec := "dequeEnds", inPlace := ["slices.overlaps[int]"], apart := false, narrowed := true }
def DequeEndsUptoSaid : Prop := dequeEndsUptoRow.holds Try.pinned (OpenSpec.upto dequeEndsSpec)

/-- 'covenantlaw09.DequeTexts', WHERE WHAT IT READS IS OF BULK AT MOST 1048576: true; the input reads as it did. -/
def dequeTextsUptoRow : OpenClaim := { program := "ytgbgdgncdanblaa", sum := "aea299cbdebd1ccb64c6ca2007ac0ad947c4bfb5596c600e6a6ec128160b3558", func := "covenant/covenantlaw09.DequeTexts", spec := "dequeTexts", inPlace := ["slices.overlaps[int]", "slices.overlaps[string]"], apart := false, narrowed := true }
def DequeTextsUptoSaid : Prop := dequeTextsUptoRow.holds Try.pinned (OpenSpec.upto dequeTextsSpec)

/-- 'covenantlaw09.DequeDoes', WHERE WHAT IT READS IS OF BULK AT MOST 1048576: true; the input reads as it did. -/
def dequeDoesUptoRow : OpenClaim := { program := "ytgbgdgncdanblaa", sum := "aea299cbdebd1ccb64c6ca2007ac0ad947c4bfb5596c600e6a6ec128160b3558", func := "covenant/covenantlaw09.DequeDoes", spec := "dequeDoes", inPlace := ["slices.overlaps[int]"], apart := false, narrowed := true }
def DequeDoesUptoSaid : Prop := dequeDoesUptoRow.holds Try.pinned (OpenSpec.upto dequeDoesSpec)

/-- 'covenantlaw09.DequeWalks', WHERE WHAT IT READS IS OF BULK AT MOST 1048576: true; the input reads as it did. -/
def dequeWalksUptoRow : OpenClaim := { program := "ytgbgdgncdanblaa", sum := "aea299cbdebd1ccb64c6ca2007ac0ad947c4bfb5596c600e6a6ec128160b3558", func := "covenant/covenantlaw09.DequeWalks", spec := "dequeWalks", inPlace := ["slices.overlaps[int]"], unfollowed := true, recurses := true, apart := false, narrowed := true }
def DequeWalksUptoSaid : Prop := dequeWalksUptoRow.holds Try.pinned (OpenSpec.upto dequeWalksSpec)

/-- 'covenantlaw09.DequeOwn', WHERE WHAT IT READS IS OF BULK AT MOST 1048576: true; the input reads as it did. -/
def dequeOwnUptoRow : OpenClaim := { program := "ytgbgdgncdanblaa", sum := "aea299cbdebd1ccb64c6ca2007ac0ad947c4bfb5596c600e6a6ec128160b3558", func := "covenant/covenantlaw09.DequeOwn", spec := "dequeOwn", inPlace := ["slices.overlaps[int]"], unfollowed := true, recurses := true, apart := false, narrowed := true }
def DequeOwnUptoSaid : Prop := dequeOwnUptoRow.holds Try.pinned (OpenSpec.upto dequeOwnSpec)

end Rows
end Go.Proofs.Ytgbgdgncdanblaa
