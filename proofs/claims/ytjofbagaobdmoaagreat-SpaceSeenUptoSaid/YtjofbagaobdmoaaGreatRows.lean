/-
  No cell of these rows narrows 'for every input' (looked for: loops, veiled, ifaces, maps, wideKeys, modest, calm, conditions, laid).
  DERIVED. THE GIVEN ROWS OF THIS SEAT. 5 by the template 'for every input the law returns true; each argument reads behind the call as it read before'; 0 by the template 'total and deterministic' (their statements: YtjofbagaobdmoaaGreatTotals.lean).
  GIVEN WITH THE SEED: the statements are not yours to turn. If you find one false, say at which input.
  Laid BY PROGRAM, IN A SANDBOX (cutbox-rows.mjs): the forced cells as the released guide's own fill.sh prints them over the translation 1318b02a6072e42c… (all of the seat's roots in one cut). By AI agents, Wed Nov 11 2026. No macro, syntax, notation, axiom, sorry.
-/
import Derived.Test.YtjofbagaobdmoaaGreatChecked
import GoSem.Claim
import GoSem.ClaimJoined
import GoSem.ClaimMapViews
import Derived.JoinedTies
import Derived.KernelRfl
namespace Go.Proofs.YtjofbagaobdmoaaGreat
/- THE CELL 'sum', in the pinned program and in every row, IS THE sha256 OF THE DUMP (.gsa) THAT YtjofbagaobdmoaaGreatProg.lean LOADS. Nothing in Lean hashes anything: it is a label: what it is worth is what the hold of that sum in a sandbox is worth. -/
noncomputable def Tryz.pinned : Pinned := { name := "ytjofbagaobdmoaagreat", sum := "1318b02a6072e42c930bfeba67d48ffe3f9eaec8571cb6ba7fd59cb29b2f3b9c", checked := Tryz.checked }
namespace Rows
def none {H : Type} : Left H := { results := [], args := [] }

/-- 'covenantlaw14.SpaceNobody': WHATEVER THE INPUT: true; the input reads as it did. -/
def spaceNobodySpec : ChangeSpec := { name := "spaceNobody", fn := fun _ => fun
  | [d1, d2] => { results := [.lit (.bool true)], args := [d1, d2] }
  | _ => none }
def spaceNobodyRow : OpenClaim := { program := "ytjofbagaobdmoaagreat", sum := "1318b02a6072e42c930bfeba67d48ffe3f9eaec8571cb6ba7fd59cb29b2f3b9c", func := "covenant/covenantlaw14.SpaceNobody", spec := "spaceNobody", inPlace := ["slices.overlaps[covenant/due.entry[string]]", "internal/abi.NoEscape"], unfollowed := true, recurses := true, apart := false }
def SpaceNobodySaid : Prop := spaceNobodyRow.holds Tryz.pinned (OpenSpec.ofChange spaceNobodySpec)

/-- ITS FALSE NEIGHBOUR: 'it returns false'. Refute it at one input. -/
def spaceNobodyWrong : ChangeSpec := { name := "spaceNobody", fn := fun _ => fun
  | [d1, d2] => { results := [.lit (.bool false)], args := [d1, d2] }
  | _ => none }
def SpaceNobodyWrongFalsely : Prop := spaceNobodyRow.holds Tryz.pinned (OpenSpec.ofChange spaceNobodyWrong)

/-- 'covenantlaw14.SpaceBack': WHATEVER THE INPUT: true; the input reads as it did. -/
def spaceBackSpec : ChangeSpec := { name := "spaceBack", fn := fun _ => fun
  | [d1, d2, d3] => { results := [.lit (.bool true)], args := [d1, d2, d3] }
  | _ => none }
def spaceBackRow : OpenClaim := { program := "ytjofbagaobdmoaagreat", sum := "1318b02a6072e42c930bfeba67d48ffe3f9eaec8571cb6ba7fd59cb29b2f3b9c", func := "covenant/covenantlaw14.SpaceBack", spec := "spaceBack", inPlace := ["slices.overlaps[covenant/due.entry[string]]", "internal/abi.NoEscape"], unfollowed := true, recurses := true, apart := false }
def SpaceBackSaid : Prop := spaceBackRow.holds Tryz.pinned (OpenSpec.ofChange spaceBackSpec)

/-- ITS FALSE NEIGHBOUR: 'it returns false'. Refute it at one input. -/
def spaceBackWrong : ChangeSpec := { name := "spaceBack", fn := fun _ => fun
  | [d1, d2, d3] => { results := [.lit (.bool false)], args := [d1, d2, d3] }
  | _ => none }
def SpaceBackWrongFalsely : Prop := spaceBackRow.holds Tryz.pinned (OpenSpec.ofChange spaceBackWrong)

/-- 'covenantlaw14.SpaceReplay': WHATEVER THE INPUT: true; the input reads as it did. -/
def spaceReplaySpec : ChangeSpec := { name := "spaceReplay", fn := fun _ => fun
  | [d1, d2] => { results := [.lit (.bool true)], args := [d1, d2] }
  | _ => none }
def spaceReplayRow : OpenClaim := { program := "ytjofbagaobdmoaagreat", sum := "1318b02a6072e42c930bfeba67d48ffe3f9eaec8571cb6ba7fd59cb29b2f3b9c", func := "covenant/covenantlaw14.SpaceReplay", spec := "spaceReplay", inPlace := ["slices.overlaps[covenant/due.entry[string]]", "internal/abi.NoEscape"], unfollowed := true, recurses := true, apart := false }
def SpaceReplaySaid : Prop := spaceReplayRow.holds Tryz.pinned (OpenSpec.ofChange spaceReplaySpec)

/-- ITS FALSE NEIGHBOUR: 'it returns false'. Refute it at one input. -/
def spaceReplayWrong : ChangeSpec := { name := "spaceReplay", fn := fun _ => fun
  | [d1, d2] => { results := [.lit (.bool false)], args := [d1, d2] }
  | _ => none }
def SpaceReplayWrongFalsely : Prop := spaceReplayRow.holds Tryz.pinned (OpenSpec.ofChange spaceReplayWrong)

/-- 'covenantlaw14.SpaceSeen': WHATEVER THE INPUT: true; the input reads as it did. -/
def spaceSeenSpec : ChangeSpec := { name := "spaceSeen", fn := fun _ => fun
  | [d1, d2] => { results := [.lit (.bool true)], args := [d1, d2] }
  | _ => none }
def spaceSeenRow : OpenClaim := { program := "ytjofbagaobdmoaagreat", sum := "1318b02a6072e42c930bfeba67d48ffe3f9eaec8571cb6ba7fd59cb29b2f3b9c", func := "covenant/covenantlaw14.SpaceSeen", spec := "spaceSeen", inPlace := ["slices.overlaps[covenant/due.entry[string]]", "internal/abi.NoEscape"], unfollowed := true, recurses := true, apart := false }
def SpaceSeenSaid : Prop := spaceSeenRow.holds Tryz.pinned (OpenSpec.ofChange spaceSeenSpec)

/-- ITS FALSE NEIGHBOUR: 'it returns false'. Refute it at one input. -/
def spaceSeenWrong : ChangeSpec := { name := "spaceSeen", fn := fun _ => fun
  | [d1, d2] => { results := [.lit (.bool false)], args := [d1, d2] }
  | _ => none }
def SpaceSeenWrongFalsely : Prop := spaceSeenRow.holds Tryz.pinned (OpenSpec.ofChange spaceSeenWrong)

/-- 'covenantlaw14.SpaceOwn': WHATEVER THE INPUT: true; the input reads as it did. -/
def spaceOwnSpec : ChangeSpec := { name := "spaceOwn", fn := fun _ => fun
  | [d1, d2] => { results := [.lit (.bool true)], args := [d1, d2] }
  | _ => none }
def spaceOwnRow : OpenClaim := { program := "ytjofbagaobdmoaagreat", sum := "1318b02a6072e42c930bfeba67d48ffe3f9eaec8571cb6ba7fd59cb29b2f3b9c", func := "covenant/covenantlaw14.SpaceOwn", spec := "spaceOwn", inPlace := ["slices.overlaps[covenant/due.entry[string]]", "internal/abi.NoEscape"], unfollowed := true, recurses := true, apart := false }
def SpaceOwnSaid : Prop := spaceOwnRow.holds Tryz.pinned (OpenSpec.ofChange spaceOwnSpec)

/-- ITS FALSE NEIGHBOUR: 'it returns false'. Refute it at one input. -/
def spaceOwnWrong : ChangeSpec := { name := "spaceOwn", fn := fun _ => fun
  | [d1, d2] => { results := [.lit (.bool false)], args := [d1, d2] }
  | _ => none }
def SpaceOwnWrongFalsely : Prop := spaceOwnRow.holds Tryz.pinned (OpenSpec.ofChange spaceOwnWrong)

/- THE SECOND FORM. 'bulk': how many values and letters a reading holds, each counted each time it is reached (what is shared counts as often as it is met; a slice's spare places count too). A statement '..UptoSaid' is the law's where the arguments, and the package variables that the reading takes, are together of bulk at most 1048576: NARROWER than '..Said'. Prove '..Said' where nothing that the law and all that it calls make is longer than what came in: it says more and counts as full. Else prove '..UptoSaid'. A law counts once. -/
mutual
def uptoBulk {H : Type} : DataW H → Nat
  | .lit (.string bytes) => bytes.length + 1
  | .lit _ => 1
  | .nil => 1
  | .ptr d => uptoBulk d + 1
  | .slice elems spare => uptoBulkAll elems + uptoBulkAll spare + 1
  | .agg parts => uptoBulkAll parts + 1
  | .iface _ d => uptoBulk d + 1
  | .map entries => uptoBulkEntries entries + 1
  | .held _ => 1
def uptoBulkAll {H : Type} : List (DataW H) → Nat
  | [] => 0
  | d :: r => uptoBulk d + uptoBulkAll r
def uptoBulkEntries {H : Type} : List (Lit × DataW H) → Nat
  | [] => 0
  | x :: r => uptoBulkEntry x + uptoBulkEntries r
def uptoBulkEntry {H : Type} : Lit × DataW H → Nat
  | (.string bytes, d) => bytes.length + uptoBulk d + 1
  | (_, d) => uptoBulk d + 1
 end
def uptoSmall : (H : Type) → List (DataW H) → Bool := fun _ ds => decide (uptoBulkAll ds ≤ 1048576)
def OpenSpec.upto (s : _root_.Go.ChangeSpec) : _root_.Go.OpenSpec := { _root_.Go.OpenSpec.ofChange s with cond := some uptoSmall }

/-- 'covenantlaw14.SpaceNobody', WHERE WHAT IT READS IS OF BULK AT MOST 1048576: true; the input reads as it did. -/
def spaceNobodyUptoRow : OpenClaim := { program := "ytjofbagaobdmoaagreat", sum := "1318b02a6072e42c930bfeba67d48ffe3f9eaec8571cb6ba7fd59cb29b2f3b9c", func := "covenant/covenantlaw14.SpaceNobody", spec := "spaceNobody", inPlace := ["slices.overlaps[covenant/due.entry[string]]", "internal/abi.NoEscape"], unfollowed := true, recurses := true, apart := false, narrowed := true }
def SpaceNobodyUptoSaid : Prop := spaceNobodyUptoRow.holds Tryz.pinned (OpenSpec.upto spaceNobodySpec)

/-- 'covenantlaw14.SpaceBack', WHERE WHAT IT READS IS OF BULK AT MOST 1048576: true; the input reads as it did. -/
def spaceBackUptoRow : OpenClaim := { program := "ytjofbagaobdmoaagreat", sum := "1318b02a6072e42c930bfeba67d48ffe3f9eaec8571cb6ba7fd59cb29b2f3b9c", func := "covenant/covenantlaw14.SpaceBack", spec := "spaceBack", inPlace := ["slices.overlaps[covenant/due.entry[string]]", "internal/abi.NoEscape"], unfollowed := true, recurses := true, apart := false, narrowed := true }
def SpaceBackUptoSaid : Prop := spaceBackUptoRow.holds Tryz.pinned (OpenSpec.upto spaceBackSpec)

/-- 'covenantlaw14.SpaceReplay', WHERE WHAT IT READS IS OF BULK AT MOST 1048576: true; the input reads as it did. -/
def spaceReplayUptoRow : OpenClaim := { program := "ytjofbagaobdmoaagreat", sum := "1318b02a6072e42c930bfeba67d48ffe3f9eaec8571cb6ba7fd59cb29b2f3b9c", func := "covenant/covenantlaw14.SpaceReplay", spec := "spaceReplay", inPlace := ["slices.overlaps[covenant/due.entry[string]]", "internal/abi.NoEscape"], unfollowed := true, recurses := true, apart := false, narrowed := true }
def SpaceReplayUptoSaid : Prop := spaceReplayUptoRow.holds Tryz.pinned (OpenSpec.upto spaceReplaySpec)

/-- 'covenantlaw14.SpaceSeen', WHERE WHAT IT READS IS OF BULK AT MOST 1048576: true; the input reads as it did. -/
def spaceSeenUptoRow : OpenClaim := { program := "ytjofbagaobdmoaagreat", sum := "1318b02a6072e42c930bfeba67d48ffe3f9eaec8571cb6ba7fd59cb29b2f3b9c", func := "covenant/covenantlaw14.SpaceSeen", spec := "spaceSeen", inPlace := ["slices.overlaps[covenant/due.entry[string]]", "internal/abi.NoEscape"], unfollowed := true, recurses := true, apart := false, narrowed := true }
def SpaceSeenUptoSaid : Prop := spaceSeenUptoRow.holds Tryz.pinned (OpenSpec.upto spaceSeenSpec)

/-- 'covenantlaw14.SpaceOwn', WHERE WHAT IT READS IS OF BULK AT MOST 1048576: true; the input reads as it did. -/
def spaceOwnUptoRow : OpenClaim := { program := "ytjofbagaobdmoaagreat", sum := "1318b02a6072e42c930bfeba67d48ffe3f9eaec8571cb6ba7fd59cb29b2f3b9c", func := "covenant/covenantlaw14.SpaceOwn", spec := "spaceOwn", inPlace := ["slices.overlaps[covenant/due.entry[string]]", "internal/abi.NoEscape"], unfollowed := true, recurses := true, apart := false, narrowed := true }
def SpaceOwnUptoSaid : Prop := spaceOwnUptoRow.holds Tryz.pinned (OpenSpec.upto spaceOwnSpec)

end Rows
end Go.Proofs.YtjofbagaobdmoaaGreat
