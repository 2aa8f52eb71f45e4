/-
  No cell of these rows narrows 'for every input' (looked for: loops, veiled, ifaces, maps, wideKeys, modest, calm, conditions, laid).
  DERIVED. THE GIVEN ROWS OF THIS SEAT. 5 by the template 'for every input the law returns true; each argument reads behind the call as it read before'; 0 by the template 'total and deterministic' (their statements: YtabgngdimbflkaaTotals.lean).
  GIVEN WITH THE SEED: the statements are not yours to turn. If you find one false, say at which input.
  Laid BY PROGRAM, IN A SANDBOX (cutbox-rows.mjs): the forced cells as the released guide's own fill.sh prints them over the translation e1288f1919aafdce… (all of the seat's roots in one cut). By AI agents, Wed Nov 11 2026. No macro, syntax, notation, axiom, sorry.
-/
import Derived.Test.YtabgngdimbflkaaChecked
import GoSem.Claim
import GoSem.ClaimJoined
import GoSem.ClaimMapViews
import Derived.JoinedTies
import Derived.KernelRfl
namespace Go.Proofs.Ytabgngdimbflkaa
/- THE CELL 'sum', in the pinned program and in every row, IS THE sha256 OF THE DUMP (.gsa) THAT YtabgngdimbflkaaProg.lean LOADS. Nothing in Lean hashes anything: it is a label: what it is worth is what the hold of that sum in a sandbox is worth. -/
noncomputable def Try.pinned : Pinned := { name := "ytabgngdimbflkaa", sum := "e1288f1919aafdceacea3c72da678a51db8a2c9daea7c9f9a6694e0874117c85", checked := Try.checked }
namespace Rows
def none {H : Type} : Left H := { results := [], args := [] }

/-- 'covenantlaw07.DueTakes': WHATEVER THE INPUT: true; the input reads as it did. -/
def dueTakesSpec : ChangeSpec := { name := "dueTakes", fn := fun _ => fun
  | [d1, d2, d3] => { results := [.lit (.bool true)], args := [d1, d2, d3] }
  | _ => none }
def dueTakesRow : OpenClaim := { program := "ytabgngdimbflkaa", sum := "e1288f1919aafdceacea3c72da678a51db8a2c9daea7c9f9a6694e0874117c85", func := "covenant/covenantlaw07.DueTakes", spec := "dueTakes", inPlace := ["slices.overlaps[covenant/due.entry[string]]"], unfollowed := true, recurses := true, apart := false }
def DueTakesSaid : Prop := dueTakesRow.holds Try.pinned (OpenSpec.ofChange dueTakesSpec)

/-- ITS FALSE NEIGHBOUR: 'it returns false'. Refute it at one input. -/
def dueTakesWrong : ChangeSpec := { name := "dueTakes", fn := fun _ => fun
  | [d1, d2, d3] => { results := [.lit (.bool false)], args := [d1, d2, d3] }
  | _ => none }
def DueTakesWrongFalsely : Prop := dueTakesRow.holds Try.pinned (OpenSpec.ofChange dueTakesWrong)

/-- 'covenantlaw07.DueWalks': WHATEVER THE INPUT: true; the input reads as it did. -/
def dueWalksSpec : ChangeSpec := { name := "dueWalks", fn := fun _ => fun
  | [d1, d2] => { results := [.lit (.bool true)], args := [d1, d2] }
  | _ => none }
def dueWalksRow : OpenClaim := { program := "ytabgngdimbflkaa", sum := "e1288f1919aafdceacea3c72da678a51db8a2c9daea7c9f9a6694e0874117c85", func := "covenant/covenantlaw07.DueWalks", spec := "dueWalks", inPlace := ["slices.overlaps[covenant/due.entry[string]]"], unfollowed := true, recurses := true, apart := false }
def DueWalksSaid : Prop := dueWalksRow.holds Try.pinned (OpenSpec.ofChange dueWalksSpec)

/-- ITS FALSE NEIGHBOUR: 'it returns false'. Refute it at one input. -/
def dueWalksWrong : ChangeSpec := { name := "dueWalks", fn := fun _ => fun
  | [d1, d2] => { results := [.lit (.bool false)], args := [d1, d2] }
  | _ => none }
def DueWalksWrongFalsely : Prop := dueWalksRow.holds Try.pinned (OpenSpec.ofChange dueWalksWrong)

/-- 'covenantlaw07.DueDoes': WHATEVER THE INPUT: true; the input reads as it did. -/
def dueDoesSpec : ChangeSpec := { name := "dueDoes", fn := fun _ => fun
  | [d] => { results := [.lit (.bool true)], args := [d] }
  | _ => none }
def dueDoesRow : OpenClaim := { program := "ytabgngdimbflkaa", sum := "e1288f1919aafdceacea3c72da678a51db8a2c9daea7c9f9a6694e0874117c85", func := "covenant/covenantlaw07.DueDoes", spec := "dueDoes", inPlace := ["slices.overlaps[covenant/due.entry[string]]"], unfollowed := true, recurses := true, apart := false }
def DueDoesSaid : Prop := dueDoesRow.holds Try.pinned (OpenSpec.ofChange dueDoesSpec)

/-- ITS FALSE NEIGHBOUR: 'it returns false'. Refute it at one input. -/
def dueDoesWrong : ChangeSpec := { name := "dueDoes", fn := fun _ => fun
  | [d] => { results := [.lit (.bool false)], args := [d] }
  | _ => none }
def DueDoesWrongFalsely : Prop := dueDoesRow.holds Try.pinned (OpenSpec.ofChange dueDoesWrong)

/-- 'covenantlaw07.DueNumbers': WHATEVER THE INPUT: true; the input reads as it did. -/
def dueNumbersSpec : ChangeSpec := { name := "dueNumbers", fn := fun _ => fun
  | [d1, d2, d3] => { results := [.lit (.bool true)], args := [d1, d2, d3] }
  | _ => none }
def dueNumbersRow : OpenClaim := { program := "ytabgngdimbflkaa", sum := "e1288f1919aafdceacea3c72da678a51db8a2c9daea7c9f9a6694e0874117c85", func := "covenant/covenantlaw07.DueNumbers", spec := "dueNumbers", inPlace := ["slices.overlaps[covenant/due.entry[string]]", "slices.overlaps[covenant/due.entry[int]]"], unfollowed := true, recurses := true, apart := false }
def DueNumbersSaid : Prop := dueNumbersRow.holds Try.pinned (OpenSpec.ofChange dueNumbersSpec)

/-- ITS FALSE NEIGHBOUR: 'it returns false'. Refute it at one input. -/
def dueNumbersWrong : ChangeSpec := { name := "dueNumbers", fn := fun _ => fun
  | [d1, d2, d3] => { results := [.lit (.bool false)], args := [d1, d2, d3] }
  | _ => none }
def DueNumbersWrongFalsely : Prop := dueNumbersRow.holds Try.pinned (OpenSpec.ofChange dueNumbersWrong)

/-- 'covenantlaw07.DueOwn': WHATEVER THE INPUT: true; the input reads as it did. -/
def dueOwnSpec : ChangeSpec := { name := "dueOwn", fn := fun _ => fun
  | [d1, d2] => { results := [.lit (.bool true)], args := [d1, d2] }
  | _ => none }
def dueOwnRow : OpenClaim := { program := "ytabgngdimbflkaa", sum := "e1288f1919aafdceacea3c72da678a51db8a2c9daea7c9f9a6694e0874117c85", func := "covenant/covenantlaw07.DueOwn", spec := "dueOwn", inPlace := ["slices.overlaps[covenant/due.entry[string]]"], unfollowed := true, recurses := true, apart := false }
def DueOwnSaid : Prop := dueOwnRow.holds Try.pinned (OpenSpec.ofChange dueOwnSpec)

/-- ITS FALSE NEIGHBOUR: 'it returns false'. Refute it at one input. -/
def dueOwnWrong : ChangeSpec := { name := "dueOwn", fn := fun _ => fun
  | [d1, d2] => { results := [.lit (.bool false)], args := [d1, d2] }
  | _ => none }
def DueOwnWrongFalsely : Prop := dueOwnRow.holds Try.pinned (OpenSpec.ofChange dueOwnWrong)

/- THE SECOND FORM. 'bulk': how many values and letters a reading holds, each counted each time it is reached (what is shared counts as often as it is met; a slice's spare places count too). A statement '..UptoSaid' is the law's where the arguments, and the package variables that the reading takes, are together of bulk at most 1048576: NARROWER than '..Said'. Prove '..Said' where nothing that the law and all that it calls make is longer than what came in: it says more and counts as full. Else prove '..UptoSaid'. A law counts once. -/
mutual
def uptoBulk {H : Type} : DataW H → Nat
  | .lit (.string bytes) => bytes.length + 1
  | .lit _ => 1
  | .nil => 1
  | .ptr d => uptoBulk d + 1
  | .slice elems spare => uptoBulkAll elems + uptoBulkAll spare + 1
  | .agg parts => uptoBulkAll parts + 1
  | .iface _ d => uptoBulk d + 1
  | .map entries => uptoBulkEntries entries + 1
  | .held _ => 1
def uptoBulkAll {H : Type} : List (DataW H) → Nat
  | [] => 0
  | d :: r => uptoBulk d + uptoBulkAll r
def uptoBulkEntries {H : Type} : List (Lit × DataW H) → Nat
  | [] => 0
  | x :: r => uptoBulkEntry x + uptoBulkEntries r
def uptoBulkEntry {H : Type} : Lit × DataW H → Nat
  | (.string bytes, d) => bytes.length + uptoBulk d + 1
  | (_, d) => uptoBulk d + 1
 end
def uptoSmall : (H : Type) → List (DataW H) → Bool := fun _ ds => decide (uptoBulkAll ds ≤ 1048576)
def OpenSpec.upto (s : _root_.Go.ChangeSpec) : _root_.Go.OpenSpec := { _root_.Go.OpenSpec.ofChange s with cond := some uptoSmall }

/-- 'covenantlaw07.DueTakes', WHERE WHAT IT READS IS OF BULK AT MOST 1048576: true; the input reads as it did. -/
def dueTakesUptoRow : OpenClaim := { program := "ytabgngdimbflkaa", sum := "e1288f1919aafdceacea3c72da678a51db8a2c9daea7c9f9a6694e0874117c85", func := "covenant/covenantlaw07.DueTakes", spec := "dueTakes", inPlace := ["slices.overlaps[covenant/due.entry[string]]"], unfollowed := true, recurses := true, apart := false, narrowed := true }
def DueTakesUptoSaid : Prop := dueTakesUptoRow.holds Try.pinned (OpenSpec.upto dueTakesSpec)

/-- 'covenantlaw07.DueWalks', WHERE WHAT IT READS IS OF BULK AT MOST 1048576: true; the input reads as it did. -/
def dueWalksUptoRow : OpenClaim := { program := "ytabgngdimbflkaa", sum := "e1288f1919aafdceacea3c72da678a51db8a2c9daea7c9f9a6694e0874117c85", func := "covenant/covenantlaw07.DueWalks", spec := "dueWalks", inPlace := ["slices.overlaps[covenant/due.entry[string]]"], unfollowed := true, recurses := true, apart := false, narrowed := true }
def DueWalksUptoSaid : Prop := dueWalksUptoRow.holds Try.pinned (OpenSpec.upto dueWalksSpec)

/-- 'covenantlaw07.DueDoes', WHERE WHAT IT READS IS OF BULK AT MOST 1048576: true; the input reads as it did. -/
def dueDoesUptoRow : OpenClaim := { program := "ytabgngdimbflkaa", sum := "e1288f1919aafdceacea3c72da678a51db8a2c9daea7c9f9a6694e0874117c85", func := "covenant/covenantlaw07.DueDoes", spec := "dueDoes", inPlace := ["slices.overlaps[covenant/due.entry[string]]"], unfollowed := true, recurses := true, apart := false, narrowed := true }
def DueDoesUptoSaid : Prop := dueDoesUptoRow.holds Try.pinned (OpenSpec.upto dueDoesSpec)

/-- 'covenantlaw07.DueNumbers', WHERE WHAT IT READS IS OF BULK AT MOST 1048576: true; the input reads as it did. -/
def dueNumbersUptoRow : OpenClaim := { program := "ytabgngdimbflkaa", sum := "e1288f1919aafdceacea3c72da678a51db8a2c9daea7c9f9a6694e0874117c85", func := "covenant/covenantlaw07.DueNumbers", spec := "dueNumbers", inPlace := ["slices.overlaps[covenant/due.entry[string]]", "slices.overlaps[covenant/due.entry[int]]"], unfollowed := true, recurses := true, apart := false, narrowed := true }
def DueNumbersUptoSaid : Prop := dueNumbersUptoRow.holds Try.pinned (OpenSpec.upto dueNumbersSpec)

/-- 'covenantlaw07.DueOwn', WHERE WHAT IT READS IS OF BULK AT MOST 1048576: true; the input reads as it did. -/
def dueOwnUptoRow : OpenClaim := { program := "ytabgngdimbflkaa", sum := "e1288f1919aafdceacea3c72da678a51db8a2c9daea7c9f9a6694e0874117c85", func := "covenant/covenantlaw07.DueOwn", spec := "dueOwn", inPlace := ["slices.overlaps[covenant/due.entry[string]]"], unfollowed := true, recurses := true, apart := false, narrowed := true }
def DueOwnUptoSaid : Prop := dueOwnUptoRow.holds Try.pinned (OpenSpec.upto dueOwnSpec)

end Rows
end Go.Proofs.Ytabgngdimbflkaa
