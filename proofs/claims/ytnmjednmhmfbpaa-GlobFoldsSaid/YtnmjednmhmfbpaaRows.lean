/-
  No cell of these rows narrows 'for every input' (looked for: loops, veiled, ifaces, maps, wideKeys, modest, calm, conditions, laid).
  DERIVED. THE GIVEN ROWS OF THIS SEAT. 7 by the template 'for every input the law returns true; each argument reads behind the call as it read before'; 0 by the template 'total and deterministic' (their statements: YtnmjednmhmfbpaaTotals.lean).
  GIVEN WITH THE SEED: the statements are not yours to turn. If you find one false, say at which input.
  Laid BY PROGRAM, IN A SANDBOX (cutbox-rows.mjs): the forced cells as the released guide's own fill.sh prints them over the translation 89267581fd5c0fee… (all of the seat's roots in one cut). By AI agents, Wed Nov 11 2026. No macro, syntax, notation, axiom, sorry.
-/
import Derived.Test.YtnmjednmhmfbpaaChecked
import GoSem.Claim
import GoSem.ClaimJoined
import GoSem.ClaimMapViews
import Derived.JoinedTies
import Derived.KernelRfl
namespace Go.Proofs.Ytnmjednmhmfbpaa
/- THE CELL 'sum', in the pinned program and in every row, IS THE sha256 OF THE DUMP (.gsa) THAT YtnmjednmhmfbpaaProg.lean LOADS. Nothing in Lean hashes anything: it is a label: what it is worth is what the hold of that sum in a sandbox is worth. -/
noncomputable def Try.pinned : Pinned := { name := "ytnmjednmhmfbpaa", sum := "89267581fd5c0fee67b04e215af13f69d67ad613a0b538e3436a8d0ac1015981", checked := Try.checked }
namespace Rows
def none {H : Type} : Left H := { results := [], args := [] }

/-- 'covenantlaw02.GlobMatches': WHATEVER THE INPUT: true; the input reads as it did. -/
def globMatchesSpec : ChangeSpec := { name := "globMatches", fn := fun _ => fun
  | [d1, d2] => { results := [.lit (.bool true)], args := [d1, d2] }
  | _ => none }
def globMatchesRow : OpenClaim := { program := "ytnmjednmhmfbpaa", sum := "89267581fd5c0fee67b04e215af13f69d67ad613a0b538e3436a8d0ac1015981", func := "covenant/covenantlaw02.GlobMatches", spec := "globMatches", inPlace := ["internal/abi.NoEscape"], apart := false }
def GlobMatchesSaid : Prop := globMatchesRow.holds Try.pinned (OpenSpec.ofChange globMatchesSpec)

/-- ITS FALSE NEIGHBOUR: 'it returns false'. Refute it at one input. -/
def globMatchesWrong : ChangeSpec := { name := "globMatches", fn := fun _ => fun
  | [d1, d2] => { results := [.lit (.bool false)], args := [d1, d2] }
  | _ => none }
def GlobMatchesWrongFalsely : Prop := globMatchesRow.holds Try.pinned (OpenSpec.ofChange globMatchesWrong)

/-- 'covenantlaw02.GlobFolds': WHATEVER THE INPUT: true; the input reads as it did. -/
def globFoldsSpec : ChangeSpec := { name := "globFolds", fn := fun _ => fun
  | [d1, d2] => { results := [.lit (.bool true)], args := [d1, d2] }
  | _ => none }
def globFoldsRow : OpenClaim := { program := "ytnmjednmhmfbpaa", sum := "89267581fd5c0fee67b04e215af13f69d67ad613a0b538e3436a8d0ac1015981", func := "covenant/covenantlaw02.GlobFolds", spec := "globFolds", inPlace := ["internal/abi.NoEscape"], apart := false }
def GlobFoldsSaid : Prop := globFoldsRow.holds Try.pinned (OpenSpec.ofChange globFoldsSpec)

/-- ITS FALSE NEIGHBOUR: 'it returns false'. Refute it at one input. -/
def globFoldsWrong : ChangeSpec := { name := "globFolds", fn := fun _ => fun
  | [d1, d2] => { results := [.lit (.bool false)], args := [d1, d2] }
  | _ => none }
def GlobFoldsWrongFalsely : Prop := globFoldsRow.holds Try.pinned (OpenSpec.ofChange globFoldsWrong)

/-- 'covenantlaw02.GlobPlains': WHATEVER THE INPUT: true; the input reads as it did. -/
def globPlainsSpec : ChangeSpec := { name := "globPlains", fn := fun _ => fun
  | [d] => { results := [.lit (.bool true)], args := [d] }
  | _ => none }
def globPlainsRow : OpenClaim := { program := "ytnmjednmhmfbpaa", sum := "89267581fd5c0fee67b04e215af13f69d67ad613a0b538e3436a8d0ac1015981", func := "covenant/covenantlaw02.GlobPlains", spec := "globPlains", inPlace := ["internal/abi.NoEscape"], apart := false }
def GlobPlainsSaid : Prop := globPlainsRow.holds Try.pinned (OpenSpec.ofChange globPlainsSpec)

/-- ITS FALSE NEIGHBOUR: 'it returns false'. Refute it at one input. -/
def globPlainsWrong : ChangeSpec := { name := "globPlains", fn := fun _ => fun
  | [d] => { results := [.lit (.bool false)], args := [d] }
  | _ => none }
def GlobPlainsWrongFalsely : Prop := globPlainsRow.holds Try.pinned (OpenSpec.ofChange globPlainsWrong)

/-- 'covenantlaw02.GlobQuotes': WHATEVER THE INPUT: true; the input reads as it did. -/
def globQuotesSpec : ChangeSpec := { name := "globQuotes", fn := fun _ => fun
  | [d1, d2] => { results := [.lit (.bool true)], args := [d1, d2] }
  | _ => none }
def globQuotesRow : OpenClaim := { program := "ytnmjednmhmfbpaa", sum := "89267581fd5c0fee67b04e215af13f69d67ad613a0b538e3436a8d0ac1015981", func := "covenant/covenantlaw02.GlobQuotes", spec := "globQuotes", inPlace := ["internal/abi.NoEscape"], apart := false }
def GlobQuotesSaid : Prop := globQuotesRow.holds Try.pinned (OpenSpec.ofChange globQuotesSpec)

/-- ITS FALSE NEIGHBOUR: 'it returns false'. Refute it at one input. -/
def globQuotesWrong : ChangeSpec := { name := "globQuotes", fn := fun _ => fun
  | [d1, d2] => { results := [.lit (.bool false)], args := [d1, d2] }
  | _ => none }
def GlobQuotesWrongFalsely : Prop := globQuotesRow.holds Try.pinned (OpenSpec.ofChange globQuotesWrong)

/-- 'covenantlaw02.GlobEnds': WHATEVER THE INPUT: true; the input reads as it did. -/
def globEndsSpec : ChangeSpec := { name := "globEnds", fn := fun _ => fun
  | [d1, d2, d3] => { results := [.lit (.bool true)], args := [d1, d2, d3] }
  | _ => none }
def globEndsRow : OpenClaim := { program := "ytnmjednmhmfbpaa", sum := "89267581fd5c0fee67b04e215af13f69d67ad613a0b538e3436a8d0ac1015981", func := "covenant/covenantlaw02.GlobEnds", spec := "globEnds", inPlace := ["internal/abi.NoEscape"], apart := false }
def GlobEndsSaid : Prop := globEndsRow.holds Try.pinned (OpenSpec.ofChange globEndsSpec)

/-- ITS FALSE NEIGHBOUR: 'it returns false'. Refute it at one input. -/
def globEndsWrong : ChangeSpec := { name := "globEnds", fn := fun _ => fun
  | [d1, d2, d3] => { results := [.lit (.bool false)], args := [d1, d2, d3] }
  | _ => none }
def GlobEndsWrongFalsely : Prop := globEndsRow.holds Try.pinned (OpenSpec.ofChange globEndsWrong)

/-- 'covenantlaw02.GlobMarks': WHATEVER THE INPUT: true; the input reads as it did. -/
def globMarksSpec : ChangeSpec := { name := "globMarks", fn := fun _ => fun
  | [d1, d2] => { results := [.lit (.bool true)], args := [d1, d2] }
  | _ => none }
def globMarksRow : OpenClaim := { program := "ytnmjednmhmfbpaa", sum := "89267581fd5c0fee67b04e215af13f69d67ad613a0b538e3436a8d0ac1015981", func := "covenant/covenantlaw02.GlobMarks", spec := "globMarks", inPlace := ["internal/abi.NoEscape"], apart := false }
def GlobMarksSaid : Prop := globMarksRow.holds Try.pinned (OpenSpec.ofChange globMarksSpec)

/-- ITS FALSE NEIGHBOUR: 'it returns false'. Refute it at one input. -/
def globMarksWrong : ChangeSpec := { name := "globMarks", fn := fun _ => fun
  | [d1, d2] => { results := [.lit (.bool false)], args := [d1, d2] }
  | _ => none }
def GlobMarksWrongFalsely : Prop := globMarksRow.holds Try.pinned (OpenSpec.ofChange globMarksWrong)

/-- 'covenantlaw02.GlobStars': WHATEVER THE INPUT: true; the input reads as it did. -/
def globStarsSpec : ChangeSpec := { name := "globStars", fn := fun _ => fun
  | [d1, d2, d3] => { results := [.lit (.bool true)], args := [d1, d2, d3] }
  | _ => none }
def globStarsRow : OpenClaim := { program := "ytnmjednmhmfbpaa", sum := "89267581fd5c0fee67b04e215af13f69d67ad613a0b538e3436a8d0ac1015981", func := "covenant/covenantlaw02.GlobStars", spec := "globStars", inPlace := ["internal/abi.NoEscape"], apart := false }
def GlobStarsSaid : Prop := globStarsRow.holds Try.pinned (OpenSpec.ofChange globStarsSpec)

/-- ITS FALSE NEIGHBOUR: 'it returns false'. Refute it at one input. -/
def globStarsWrong : ChangeSpec := { name := "globStars", fn := fun _ => fun
  | [d1, d2, d3] => { results := [.lit (.bool false)], args := [d1, d2, d3] }
  | _ => none }
def GlobStarsWrongFalsely : Prop := globStarsRow.holds Try.pinned (OpenSpec.ofChange globStarsWrong)

/- THE SECOND FORM. 'bulk': how many values and letters a reading holds, each counted each time it is reached (what is shared counts as often as it is met; a slice's spare places count too). A statement '..UptoSaid' is the law's where the arguments, and the package variables that the reading takes, are together of bulk at most 1048576: NARROWER than '..Said'. Prove '..Said' where nothing that the law and all that it calls make is longer than what came in: it says more and counts as full. Else prove '..UptoSaid'. A law counts once. -/
mutual
def uptoBulk {H : Type} : DataW H → Nat
  | .lit (.string bytes) => bytes.length + 1
  | .lit _ => 1
  | .nil => 1
  | .ptr d => uptoBulk d + 1
  | .slice elems spare => uptoBulkAll elems + uptoBulkAll spare + 1
  | .agg parts => uptoBulkAll parts + 1
  | .iface _ d => uptoBulk d + 1
  | .map entries => uptoBulkEntries entries + 1
  | .held _ => 1
def uptoBulkAll {H : Type} : List (DataW H) → Nat
  | [] => 0
  | d :: r => uptoBulk d + uptoBulkAll r
def uptoBulkEntries {H : Type} : List (Lit × DataW H) → Nat
  | [] => 0
  | x :: r => uptoBulkEntry x + uptoBulkEntries r
def uptoBulkEntry {H : Type} : Lit × DataW H → Nat
  | (.string bytes, d) => bytes.length + uptoBulk d + 1
  | (_, d) => uptoBulk d + 1
 end
def uptoSmall : (H : Type) → List (DataW H) → Bool := fun _ ds => decide (uptoBulkAll ds ≤ 1048576)
def OpenSpec.upto (s : _root_.Go.ChangeSpec) : _root_.Go.OpenSpec := { _root_.Go.OpenSpec.ofChange s with cond := some uptoSmall }

/-- 'covenantlaw02.GlobMatches', WHERE WHAT IT READS IS OF BULK AT MOST 1048576: true; the input reads as it did. -/
def globMatchesUptoRow : OpenClaim := { program := "ytnmjednmhmfbpaa", sum := "89267581fd5c0fee67b04e215af13f69d67ad613a0b538e3436a8d0ac1015981", func := "covenant/covenantlaw02.GlobMatches", spec := "globMatches", inPlace := ["internal/abi.NoEscape"], apart := false, narrowed := true }
def GlobMatchesUptoSaid : Prop := globMatchesUptoRow.holds Try.pinned (OpenSpec.upto globMatchesSpec)

/-- 'covenantlaw02.GlobFolds', WHERE WHAT IT READS IS OF BULK AT MOST 1048576: true; the input reads as it did. -/
def globFoldsUptoRow : OpenClaim := { program := "ytnmjednmhmfbpaa", sum := "89267581fd5c0fee67b04e215af13f69d67ad613a0b538e3436a8d0ac1015981", func := "covenant/covenantlaw02.GlobFolds", spec := "globFolds", inPlace := ["internal/abi.NoEscape"], apart := false, narrowed := true }
def GlobFoldsUptoSaid : Prop := globFoldsUptoRow.holds Try.pinned (OpenSpec.upto globFoldsSpec)

/-- 'covenantlaw02.GlobPlains', WHERE WHAT IT READS IS OF BULK AT MOST 1048576: true; the input reads as it did. -/
def globPlainsUptoRow : OpenClaim := { program := "ytnmjednmhmfbpaa", sum := "89267581fd5c0fee67b04e215af13f69d67ad613a0b538e3436a8d0ac1015981", func := "covenant/covenantlaw02.GlobPlains", spec := "globPlains", inPlace := ["internal/abi.NoEscape"], apart := false, narrowed := true }
def GlobPlainsUptoSaid : Prop := globPlainsUptoRow.holds Try.pinned (OpenSpec.upto globPlainsSpec)

/-- 'covenantlaw02.GlobQuotes', WHERE WHAT IT READS IS OF BULK AT MOST 1048576: true; the input reads as it did. -/
def globQuotesUptoRow : OpenClaim := { program := "ytnmjednmhmfbpaa", sum := "89267581fd5c0fee67b04e215af13f69d67ad613a0b538e3436a8d0ac1015981", func := "covenant/covenantlaw02.GlobQuotes", spec := "globQuotes", inPlace := ["internal/abi.NoEscape"], apart := false, narrowed := true }
def GlobQuotesUptoSaid : Prop := globQuotesUptoRow.holds Try.pinned (OpenSpec.upto globQuotesSpec)

/-- 'covenantlaw02.GlobEnds', WHERE WHAT IT READS IS OF BULK AT MOST 1048576: true; the input reads as it did. -/
def globEndsUptoRow : OpenClaim := { program := "ytnmjednmhmfbpaa", sum := "89267581fd5c0fee67b04e215af13f69d67ad613a0b538e3436a8d0ac1015981", func := "covenant/covenantlaw02.GlobEnds", spec := "globEnds", inPlace := ["internal/abi.NoEscape"], apart := false, narrowed := true }
def GlobEndsUptoSaid : Prop := globEndsUptoRow.holds Try.pinned (OpenSpec.upto globEndsSpec)

/-- 'covenantlaw02.GlobMarks', WHERE WHAT IT READS IS OF BULK AT MOST 1048576: true; the input reads as it did. -/
def globMarksUptoRow : OpenClaim := { program := "ytnmjednmhmfbpaa", sum := "89267581fd5c0fee67b04e215af13f69d67ad613a0b538e3436a8d0ac1015981", func := "covenant/covenantlaw02.GlobMarks", spec := "globMarks", inPlace := ["internal/abi.NoEscape"], apart := false, narrowed := true }
def GlobMarksUptoSaid : Prop := globMarksUptoRow.holds Try.pinned (OpenSpec.upto globMarksSpec)

/-- 'covenantlaw02.GlobStars', WHERE WHAT IT READS IS OF BULK AT MOST 1048576: true; the input reads as it did. -/
def globStarsUptoRow : OpenClaim := { program := "ytnmjednmhmfbpaa", sum := "89267581fd5c0fee67b04e215af13f69d67ad613a0b538e3436a8d0ac1015981", func := "covenant/covenantlaw02.GlobStars", spec := "globStars", inPlace := ["internal/abi.NoEscape"], apart := false, narrowed := true }
def GlobStarsUptoSaid : Prop := globStarsUptoRow.holds Try.pinned (OpenSpec.upto globStarsSpec)

end Rows
end Go.Proofs.Ytnmjednmhmfbpaa
