/-
  No cell of these rows narrows 'for every input' (looked for: loops, veiled, ifaces, maps, wideKeys, modest, calm, conditions, laid).
  DERIVED. THE GIVEN ROWS OF THIS SEAT. 5 by the template 'for every input the law returns true; each argument reads behind the call as it read before'; 0 by the template 'total and deterministic' (their statements: YtgmnnpbbiejbnaaGreatTotals.lean).
  GIVEN WITH THE SEED: the statements are not yours to turn. If you find one false, say at which input.
  Laid BY PROGRAM, IN A SANDBOX (cutbox-rows.mjs): the forced cells as the released guide's own fill.sh prints them over the translation f54c78a6153382ed… (all of the seat's roots in one cut). By AI agents, Wed Nov 11 2026. No macro, syntax, notation, axiom, sorry.
-/
import Derived.Test.YtgmnnpbbiejbnaaGreatChecked
import GoSem.Claim
import GoSem.ClaimJoined
import GoSem.ClaimMapViews
import Derived.JoinedTies
import Derived.KernelRfl
namespace Go.Proofs.YtgmnnpbbiejbnaaGreat
/- THE CELL 'sum', in the pinned program and in every row, IS THE sha256 OF THE DUMP (.gsa) THAT YtgmnnpbbiejbnaaGreatProg.lean LOADS. Nothing in Lean hashes anything: it is a label: what it is worth is what the hold of that sum in a sandbox is worth. -/
noncomputable def Tryz.pinned : Pinned := { name := "ytgmnnpbbiejbnaagreat", sum := "f54c78a6153382edd3765cf894783da8142b4e2d757a2c5a8fa9097441688079", checked := Tryz.checked }
namespace Rows
def none {H : Type} : Left H := { results := [], args := [] }

/-- 'covenantlaw16.EffectWrites': WHATEVER THE INPUT: true; the input reads as it did. -/
def effectWritesSpec : ChangeSpec := { name := "effectWrites", fn := fun _ => fun
  | [d] => { results := [.lit (.bool true)], args := [d] }
  | _ => none }
def effectWritesRow : OpenClaim := { program := "ytgmnnpbbiejbnaagreat", sum := "f54c78a6153382edd3765cf894783da8142b4e2d757a2c5a8fa9097441688079", func := "covenant/covenantlaw16.EffectWrites", spec := "effectWrites", inPlace := ["internal/abi.NoEscape", "slices.overlaps[covenant/due.entry[string]]"], unfollowed := true, recurses := true, apart := false }
def EffectWritesSaid : Prop := effectWritesRow.holds Tryz.pinned (OpenSpec.ofChange effectWritesSpec)

/-- ITS FALSE NEIGHBOUR: 'it returns false'. Refute it at one input. -/
def effectWritesWrong : ChangeSpec := { name := "effectWrites", fn := fun _ => fun
  | [d] => { results := [.lit (.bool false)], args := [d] }
  | _ => none }
def EffectWritesWrongFalsely : Prop := effectWritesRow.holds Tryz.pinned (OpenSpec.ofChange effectWritesWrong)

/-- 'covenantlaw16.EffectReads': WHATEVER THE INPUT: true; the input reads as it did. -/
def effectReadsSpec : ChangeSpec := { name := "effectReads", fn := fun _ => fun
  | [d] => { results := [.lit (.bool true)], args := [d] }
  | _ => none }
def effectReadsRow : OpenClaim := { program := "ytgmnnpbbiejbnaagreat", sum := "f54c78a6153382edd3765cf894783da8142b4e2d757a2c5a8fa9097441688079", func := "covenant/covenantlaw16.EffectReads", spec := "effectReads", inPlace := ["internal/abi.NoEscape", "slices.overlaps[covenant/due.entry[string]]"], unfollowed := true, recurses := true, apart := false }
def EffectReadsSaid : Prop := effectReadsRow.holds Tryz.pinned (OpenSpec.ofChange effectReadsSpec)

/-- ITS FALSE NEIGHBOUR: 'it returns false'. Refute it at one input. -/
def effectReadsWrong : ChangeSpec := { name := "effectReads", fn := fun _ => fun
  | [d] => { results := [.lit (.bool false)], args := [d] }
  | _ => none }
def EffectReadsWrongFalsely : Prop := effectReadsRow.holds Tryz.pinned (OpenSpec.ofChange effectReadsWrong)

/-- 'covenantlaw16.EffectBack': WHATEVER THE INPUT: true; the input reads as it did. -/
def effectBackSpec : ChangeSpec := { name := "effectBack", fn := fun _ => fun
  | [d1, d2] => { results := [.lit (.bool true)], args := [d1, d2] }
  | _ => none }
def effectBackRow : OpenClaim := { program := "ytgmnnpbbiejbnaagreat", sum := "f54c78a6153382edd3765cf894783da8142b4e2d757a2c5a8fa9097441688079", func := "covenant/covenantlaw16.EffectBack", spec := "effectBack", inPlace := ["internal/abi.NoEscape", "slices.overlaps[covenant/due.entry[string]]"], unfollowed := true, recurses := true, apart := false }
def EffectBackSaid : Prop := effectBackRow.holds Tryz.pinned (OpenSpec.ofChange effectBackSpec)

/-- ITS FALSE NEIGHBOUR: 'it returns false'. Refute it at one input. -/
def effectBackWrong : ChangeSpec := { name := "effectBack", fn := fun _ => fun
  | [d1, d2] => { results := [.lit (.bool false)], args := [d1, d2] }
  | _ => none }
def EffectBackWrongFalsely : Prop := effectBackRow.holds Tryz.pinned (OpenSpec.ofChange effectBackWrong)

/-- 'covenantlaw16.EffectWhole': WHATEVER THE INPUT: true; the input reads as it did. -/
def effectWholeSpec : ChangeSpec := { name := "effectWhole", fn := fun _ => fun
  | [d1, d2, d3] => { results := [.lit (.bool true)], args := [d1, d2, d3] }
  | _ => none }
def effectWholeRow : OpenClaim := { program := "ytgmnnpbbiejbnaagreat", sum := "f54c78a6153382edd3765cf894783da8142b4e2d757a2c5a8fa9097441688079", func := "covenant/covenantlaw16.EffectWhole", spec := "effectWhole", inPlace := ["slices.overlaps[covenant/due.entry[string]]", "internal/abi.NoEscape"], unfollowed := true, recurses := true, apart := false }
def EffectWholeSaid : Prop := effectWholeRow.holds Tryz.pinned (OpenSpec.ofChange effectWholeSpec)

/-- ITS FALSE NEIGHBOUR: 'it returns false'. Refute it at one input. -/
def effectWholeWrong : ChangeSpec := { name := "effectWhole", fn := fun _ => fun
  | [d1, d2, d3] => { results := [.lit (.bool false)], args := [d1, d2, d3] }
  | _ => none }
def EffectWholeWrongFalsely : Prop := effectWholeRow.holds Tryz.pinned (OpenSpec.ofChange effectWholeWrong)

/-- 'covenantlaw16.EffectReplay': WHATEVER THE INPUT: true; the input reads as it did. -/
def effectReplaySpec : ChangeSpec := { name := "effectReplay", fn := fun _ => fun
  | [d1, d2] => { results := [.lit (.bool true)], args := [d1, d2] }
  | _ => none }
def effectReplayRow : OpenClaim := { program := "ytgmnnpbbiejbnaagreat", sum := "f54c78a6153382edd3765cf894783da8142b4e2d757a2c5a8fa9097441688079", func := "covenant/covenantlaw16.EffectReplay", spec := "effectReplay", inPlace := ["slices.overlaps[covenant/due.entry[string]]", "internal/abi.NoEscape"], unfollowed := true, recurses := true, apart := false }
def EffectReplaySaid : Prop := effectReplayRow.holds Tryz.pinned (OpenSpec.ofChange effectReplaySpec)

/-- ITS FALSE NEIGHBOUR: 'it returns false'. Refute it at one input. -/
def effectReplayWrong : ChangeSpec := { name := "effectReplay", fn := fun _ => fun
  | [d1, d2] => { results := [.lit (.bool false)], args := [d1, d2] }
  | _ => none }
def EffectReplayWrongFalsely : Prop := effectReplayRow.holds Tryz.pinned (OpenSpec.ofChange effectReplayWrong)

/- THE SECOND FORM. 'bulk': how many values and letters a reading holds, each counted each time it is reached (what is shared counts as often as it is met; a slice's spare places count too). A statement '..UptoSaid' is the law's where the arguments, and the package variables that the reading takes, are together of bulk at most 1048576: NARROWER than '..Said'. Prove '..Said' where nothing that the law and all that it calls make is longer than what came in: it says more and counts as full. Else prove '..UptoSaid'. A law counts once. -/
mutual
def uptoBulk {H : Type} : DataW H → Nat
  | .lit (.string bytes) => bytes.length + 1
  | .lit _ => 1
  | .nil => 1
  | .ptr d => uptoBulk d + 1
  | .slice elems spare => uptoBulkAll elems + uptoBulkAll spare + 1
  | .agg parts => uptoBulkAll parts + 1
  | .iface _ d => uptoBulk d + 1
  | .map entries => uptoBulkEntries entries + 1
  | .held _ => 1
def uptoBulkAll {H : Type} : List (DataW H) → Nat
  | [] => 0
  | d :: r => uptoBulk d + uptoBulkAll r
def uptoBulkEntries {H : Type} : List (Lit × DataW H) → Nat
  | [] => 0
  | x :: r => uptoBulkEntry x + uptoBulkEntries r
def uptoBulkEntry {H : Type} : Lit × DataW H → Nat
  | (.string bytes, d) => bytes.length + uptoBulk d + 1
  | (_, d) => uptoBulk d + 1
 end
def uptoSmall : (H : Type) → List (DataW H) → Bool := fun _ ds => decide (uptoBulkAll ds ≤ 1048576)
def OpenSpec.upto (s : _root_.Go.ChangeSpec) : _root_.Go.OpenSpec := { _root_.Go.OpenSpec.ofChange s with cond := some uptoSmall }

/-- 'covenantlaw16.EffectWrites', WHERE WHAT IT READS IS OF BULK AT MOST 1048576: true; the input reads as it did. -/
def effectWritesUptoRow : OpenClaim := { program := "ytgmnnpbbiejbnaagreat", sum := "f54c78a6153382edd3765cf894783da8142b4e2d757a2c5a8fa9097441688079", func := "covenant/covenantlaw16.EffectWrites", spec := "effectWrites", inPlace := ["internal/abi.NoEscape", "slices.overlaps[covenant/due.entry[string]]"], unfollowed := true, recurses := true, apart := false, narrowed := true }
def EffectWritesUptoSaid : Prop := effectWritesUptoRow.holds Tryz.pinned (OpenSpec.upto effectWritesSpec)

/-- 'covenantlaw16.EffectReads', WHERE WHAT IT READS IS OF BULK AT MOST 1048576: true; the input reads as it did. -/
def effectReadsUptoRow : OpenClaim := { program := "ytgmnnpbbiejbnaagreat", sum := "f54c78a6153382edd3765cf894783da8142b4e2d757a2c5a8fa9097441688079", func := "covenant/covenantlaw16.EffectReads", spec := "effectReads", inPlace := ["internal/abi.NoEscape", "slices.overlaps[covenant/due.entry[string]]"], unfollowed := true, recurses := true, apart := false, narrowed := true }
def EffectReadsUptoSaid : Prop := effectReadsUptoRow.holds Tryz.pinned (OpenSpec.upto effectReadsSpec)

/-- 'covenantlaw16.EffectBack', WHERE WHAT IT READS IS OF BULK AT MOST 1048576: true; the input reads as it did. -/
def effectBackUptoRow : OpenClaim := { program := "ytgmnnpbbiejbnaagreat", sum := "f54c78a6153382edd3765cf894783da8142b4e2d757a2c5a8fa9097441688079", func := "covenant/covenantlaw16.EffectBack", spec := "effectBack", inPlace := ["internal/abi.NoEscape", "slices.overlaps[covenant/due.entry[string]]"], unfollowed := true, recurses := true, apart := false, narrowed := true }
def EffectBackUptoSaid : Prop := effectBackUptoRow.holds Tryz.pinned (OpenSpec.upto effectBackSpec)

/-- 'covenantlaw16.EffectWhole', WHERE WHAT IT READS IS OF BULK AT MOST 1048576: true; the input reads as it did. -/
def effectWholeUptoRow : OpenClaim := { program := "ytgmnnpbbiejbnaagreat", sum := "f54c78a6153382edd3765cf894783da8142b4e2d757a2c5a8fa9097441688079", func := "covenant/covenantlaw16.EffectWhole", spec := "effectWhole", inPlace := ["slices.overlaps[covenant/due.entry[string]]", "internal/abi.NoEscape"], unfollowed := true, recurses := true, apart := false, narrowed := true }
def EffectWholeUptoSaid : Prop := effectWholeUptoRow.holds Tryz.pinned (OpenSpec.upto effectWholeSpec)

/-- 'covenantlaw16.EffectReplay', WHERE WHAT IT READS IS OF BULK AT MOST 1048576: true; the input reads as it did. -/
def effectReplayUptoRow : OpenClaim := { program := "ytgmnnpbbiejbnaagreat", sum := "f54c78a6153382edd3765cf894783da8142b4e2d757a2c5a8fa9097441688079", func := "covenant/covenantlaw16.EffectReplay", spec := "effectReplay", inPlace := ["slices.overlaps[covenant/due.entry[string]]", "internal/abi.NoEscape"], unfollowed := true, recurses := true, apart := false, narrowed := true }
def EffectReplayUptoSaid : Prop := effectReplayUptoRow.holds Tryz.pinned (OpenSpec.upto effectReplaySpec)

end Rows
end Go.Proofs.YtgmnnpbbiejbnaaGreat
