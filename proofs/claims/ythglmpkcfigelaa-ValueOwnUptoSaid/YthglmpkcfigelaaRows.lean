/-
  No cell of these rows narrows 'for every input' (looked for: loops, veiled, ifaces, maps, wideKeys, modest, calm, conditions, laid).
  DERIVED. THE GIVEN ROWS OF THIS SEAT. 7 by the template 'for every input the law returns true; each argument reads behind the call as it read before'; 0 by the template 'total and deterministic' (their statements: YthglmpkcfigelaaTotals.lean).
  GIVEN WITH THE SEED: the statements are not yours to turn. If you find one false, say at which input.
  Laid BY PROGRAM, IN A SANDBOX (cutbox-rows.mjs): the forced cells as the released guide's own fill.sh prints them over the translation 21ee2e58449f9a3c… (all of the seat's roots in one cut). By AI agents, Wed Nov 11 2026. No macro, syntax, notation, axiom, sorry.
-/
import Derived.Test.YthglmpkcfigelaaChecked
import GoSem.Claim
import GoSem.ClaimJoined
import GoSem.ClaimMapViews
import Derived.JoinedTies
import Derived.KernelRfl
namespace Go.Proofs.Ythglmpkcfigelaa
/- THE CELL 'sum', in the pinned program and in every row, IS THE sha256 OF THE DUMP (.gsa) THAT YthglmpkcfigelaaProg.lean LOADS. Nothing in Lean hashes anything: it is a label: what it is worth is what the hold of that sum in a sandbox is worth. -/
noncomputable def Try.pinned : Pinned := { name := "ythglmpkcfigelaa", sum := "21ee2e58449f9a3c231e877e49642a48bf7871aacf2e8ac1a2d3925950baabc0", checked := Try.checked }
namespace Rows
def none {H : Type} : Left H := { results := [], args := [] }

/-- 'covenantlaw13.ValueEncodes': WHATEVER THE INPUT: true; the input reads as it did. -/
def valueEncodesSpec : ChangeSpec := { name := "valueEncodes", fn := fun _ => fun
  | [d] => { results := [.lit (.bool true)], args := [d] }
  | _ => none }
def valueEncodesRow : OpenClaim := { program := "ythglmpkcfigelaa", sum := "21ee2e58449f9a3c231e877e49642a48bf7871aacf2e8ac1a2d3925950baabc0", func := "covenant/covenantlaw13.ValueEncodes", spec := "valueEncodes", unfollowed := true, recurses := true, apart := false }
def ValueEncodesSaid : Prop := valueEncodesRow.holds Try.pinned (OpenSpec.ofChange valueEncodesSpec)

/-- ITS FALSE NEIGHBOUR: 'it returns false'. Refute it at one input. -/
def valueEncodesWrong : ChangeSpec := { name := "valueEncodes", fn := fun _ => fun
  | [d] => { results := [.lit (.bool false)], args := [d] }
  | _ => none }
def ValueEncodesWrongFalsely : Prop := valueEncodesRow.holds Try.pinned (OpenSpec.ofChange valueEncodesWrong)

/-- 'covenantlaw13.ValueDecodes': WHATEVER THE INPUT: true; the input reads as it did. -/
def valueDecodesSpec : ChangeSpec := { name := "valueDecodes", fn := fun _ => fun
  | [d] => { results := [.lit (.bool true)], args := [d] }
  | _ => none }
def valueDecodesRow : OpenClaim := { program := "ythglmpkcfigelaa", sum := "21ee2e58449f9a3c231e877e49642a48bf7871aacf2e8ac1a2d3925950baabc0", func := "covenant/covenantlaw13.ValueDecodes", spec := "valueDecodes", unfollowed := true, recurses := true, apart := false }
def ValueDecodesSaid : Prop := valueDecodesRow.holds Try.pinned (OpenSpec.ofChange valueDecodesSpec)

/-- ITS FALSE NEIGHBOUR: 'it returns false'. Refute it at one input. -/
def valueDecodesWrong : ChangeSpec := { name := "valueDecodes", fn := fun _ => fun
  | [d] => { results := [.lit (.bool false)], args := [d] }
  | _ => none }
def ValueDecodesWrongFalsely : Prop := valueDecodesRow.holds Try.pinned (OpenSpec.ofChange valueDecodesWrong)

/-- 'covenantlaw13.ValueBack': WHATEVER THE INPUT: true; the input reads as it did. -/
def valueBackSpec : ChangeSpec := { name := "valueBack", fn := fun _ => fun
  | [d1, d2] => { results := [.lit (.bool true)], args := [d1, d2] }
  | _ => none }
def valueBackRow : OpenClaim := { program := "ythglmpkcfigelaa", sum := "21ee2e58449f9a3c231e877e49642a48bf7871aacf2e8ac1a2d3925950baabc0", func := "covenant/covenantlaw13.ValueBack", spec := "valueBack", unfollowed := true, recurses := true, apart := false }
def ValueBackSaid : Prop := valueBackRow.holds Try.pinned (OpenSpec.ofChange valueBackSpec)

/-- ITS FALSE NEIGHBOUR: 'it returns false'. Refute it at one input. -/
def valueBackWrong : ChangeSpec := { name := "valueBack", fn := fun _ => fun
  | [d1, d2] => { results := [.lit (.bool false)], args := [d1, d2] }
  | _ => none }
def ValueBackWrongFalsely : Prop := valueBackRow.holds Try.pinned (OpenSpec.ofChange valueBackWrong)

/-- 'covenantlaw13.ValueApart': WHATEVER THE INPUT: true; the input reads as it did. -/
def valueApartSpec : ChangeSpec := { name := "valueApart", fn := fun _ => fun
  | [d1, d2, d3] => { results := [.lit (.bool true)], args := [d1, d2, d3] }
  | _ => none }
def valueApartRow : OpenClaim := { program := "ythglmpkcfigelaa", sum := "21ee2e58449f9a3c231e877e49642a48bf7871aacf2e8ac1a2d3925950baabc0", func := "covenant/covenantlaw13.ValueApart", spec := "valueApart", unfollowed := true, recurses := true, apart := false }
def ValueApartSaid : Prop := valueApartRow.holds Try.pinned (OpenSpec.ofChange valueApartSpec)

/-- ITS FALSE NEIGHBOUR: 'it returns false'. Refute it at one input. -/
def valueApartWrong : ChangeSpec := { name := "valueApart", fn := fun _ => fun
  | [d1, d2, d3] => { results := [.lit (.bool false)], args := [d1, d2, d3] }
  | _ => none }
def ValueApartWrongFalsely : Prop := valueApartRow.holds Try.pinned (OpenSpec.ofChange valueApartWrong)

/-- 'covenantlaw13.ValueOwn': WHATEVER THE INPUT: true; the input reads as it did. -/
def valueOwnSpec : ChangeSpec := { name := "valueOwn", fn := fun _ => fun
  | [d] => { results := [.lit (.bool true)], args := [d] }
  | _ => none }
def valueOwnRow : OpenClaim := { program := "ythglmpkcfigelaa", sum := "21ee2e58449f9a3c231e877e49642a48bf7871aacf2e8ac1a2d3925950baabc0", func := "covenant/covenantlaw13.ValueOwn", spec := "valueOwn", unfollowed := true, recurses := true, apart := false }
def ValueOwnSaid : Prop := valueOwnRow.holds Try.pinned (OpenSpec.ofChange valueOwnSpec)

/-- ITS FALSE NEIGHBOUR: 'it returns false'. Refute it at one input. -/
def valueOwnWrong : ChangeSpec := { name := "valueOwn", fn := fun _ => fun
  | [d] => { results := [.lit (.bool false)], args := [d] }
  | _ => none }
def ValueOwnWrongFalsely : Prop := valueOwnRow.holds Try.pinned (OpenSpec.ofChange valueOwnWrong)

/-- 'covenantlaw13.ValueChecks': WHATEVER THE INPUT: true; the input reads as it did. -/
def valueChecksSpec : ChangeSpec := { name := "valueChecks", fn := fun _ => fun
  | [d1, d2] => { results := [.lit (.bool true)], args := [d1, d2] }
  | _ => none }
def valueChecksRow : OpenClaim := { program := "ythglmpkcfigelaa", sum := "21ee2e58449f9a3c231e877e49642a48bf7871aacf2e8ac1a2d3925950baabc0", func := "covenant/covenantlaw13.ValueChecks", spec := "valueChecks", unfollowed := true, recurses := true, apart := false }
def ValueChecksSaid : Prop := valueChecksRow.holds Try.pinned (OpenSpec.ofChange valueChecksSpec)

/-- ITS FALSE NEIGHBOUR: 'it returns false'. Refute it at one input. -/
def valueChecksWrong : ChangeSpec := { name := "valueChecks", fn := fun _ => fun
  | [d1, d2] => { results := [.lit (.bool false)], args := [d1, d2] }
  | _ => none }
def ValueChecksWrongFalsely : Prop := valueChecksRow.holds Try.pinned (OpenSpec.ofChange valueChecksWrong)

/-- 'covenantlaw13.ValueSames': WHATEVER THE INPUT: true; the input reads as it did. -/
def valueSamesSpec : ChangeSpec := { name := "valueSames", fn := fun _ => fun
  | [d1, d2] => { results := [.lit (.bool true)], args := [d1, d2] }
  | _ => none }
def valueSamesRow : OpenClaim := { program := "ythglmpkcfigelaa", sum := "21ee2e58449f9a3c231e877e49642a48bf7871aacf2e8ac1a2d3925950baabc0", func := "covenant/covenantlaw13.ValueSames", spec := "valueSames", unfollowed := true, recurses := true, apart := false }
def ValueSamesSaid : Prop := valueSamesRow.holds Try.pinned (OpenSpec.ofChange valueSamesSpec)

/-- ITS FALSE NEIGHBOUR: 'it returns false'. Refute it at one input. -/
def valueSamesWrong : ChangeSpec := { name := "valueSames", fn := fun _ => fun
  | [d1, d2] => { results := [.lit (.bool false)], args := [d1, d2] }
  | _ => none }
def ValueSamesWrongFalsely : Prop := valueSamesRow.holds Try.pinned (OpenSpec.ofChange valueSamesWrong)

/- THE SECOND FORM. 'bulk': how many values and letters a reading holds, each counted each time it is reached (what is shared counts as often as it is met; a slice's spare places count too). A statement '..UptoSaid' is the law's where the arguments, and the package variables that the reading takes, are together of bulk at most 1048576: NARROWER than '..Said'. Prove '..Said' where nothing that the law and all that it calls make is longer than what came in: it says more and counts as full. Else prove '..UptoSaid'. A law counts once. -/
mutual
def uptoBulk {H : Type} : DataW H → Nat
  | .lit (.string bytes) => bytes.length + 1
  | .lit _ => 1
  | .nil => 1
  | .ptr d => uptoBulk d + 1
  | .slice elems spare => uptoBulkAll elems + uptoBulkAll spare + 1
  | .agg parts => uptoBulkAll parts + 1
  | .iface _ d => uptoBulk d + 1
  | .map entries => uptoBulkEntries entries + 1
  | .held _ => 1
def uptoBulkAll {H : Type} : List (DataW H) → Nat
  | [] => 0
  | d :: r => uptoBulk d + uptoBulkAll r
def uptoBulkEntries {H : Type} : List (Lit × DataW H) → Nat
  | [] => 0
  | x :: r => uptoBulkEntry x + uptoBulkEntries r
def uptoBulkEntry {H : Type} : Lit × DataW H → Nat
  | (.string bytes, d) => bytes.length + uptoBulk d + 1
  | (_, d) => uptoBulk d + 1
 end
def uptoSmall : (H : Type) → List (DataW H) → Bool := fun _ ds => decide (uptoBulkAll ds ≤ 1048576)
def OpenSpec.upto (s : _root_.Go.ChangeSpec) : _root_.Go.OpenSpec := { _root_.Go.OpenSpec.ofChange s with cond := some uptoSmall }

/-- 'covenantlaw13.ValueEncodes', WHERE WHAT IT READS IS OF BULK AT MOST 1048576: true; the input reads as it did. -/
def valueEncodesUptoRow : OpenClaim := { program := "ythglmpkcfigelaa", sum := "21ee2e58449f9a3c231e877e49642a48bf7871aacf2e8ac1a2d3925950baabc0", func := "covenant/covenantlaw13.ValueEncodes", spec := "valueEncodes", unfollowed := true, recurses := true, apart := false, narrowed := true }
def ValueEncodesUptoSaid : Prop := valueEncodesUptoRow.holds Try.pinned (OpenSpec.upto valueEncodesSpec)

/-- 'covenantlaw13.ValueDecodes', WHERE WHAT IT READS IS OF BULK AT MOST 1048576: true; the input reads as it did. -/
def valueDecodesUptoRow : OpenClaim := { program := "ythglmpkcfigelaa", sum := "21ee2e58449f9a3c231e877e49642a48bf7871aacf2e8ac1a2d3925950baabc0", func := "covenant/covenantlaw13.ValueDecodes", spec := "valueDecodes", unfollowed := true, recurses := true, apart := false, narrowed := true }
def ValueDecodesUptoSaid : Prop := valueDecodesUptoRow.holds Try.pinned (OpenSpec.upto valueDecodesSpec)

/-- 'covenantlaw13.ValueBack', WHERE WHAT IT READS IS OF BULK AT MOST 1048576: true; the input reads as it did. -/
def valueBackUptoRow : OpenClaim := { program := "ythglmpkcfigelaa", sum := "21ee2e58449f9a3c231e877e49642a48bf7871aacf2e8ac1a2d3925950baabc0", func := "covenant/covenantlaw13.ValueBack", spec := "valueBack", unfollowed := true, recurses := true, apart := false, narrowed := true }
def ValueBackUptoSaid : Prop := valueBackUptoRow.holds Try.pinned (OpenSpec.upto valueBackSpec)

/-- 'covenantlaw13.ValueApart', WHERE WHAT IT READS IS OF BULK AT MOST 1048576: true; the input reads as it did. -/
def valueApartUptoRow : OpenClaim := { program := "ythglmpkcfigelaa", sum := "21ee2e58449f9a3c231e877e49642a48bf7871aacf2e8ac1a2d3925950baabc0", func := "covenant/covenantlaw13.ValueApart", spec := "valueApart", unfollowed := true, recurses := true, apart := false, narrowed := true }
def ValueApartUptoSaid : Prop := valueApartUptoRow.holds Try.pinned (OpenSpec.upto valueApartSpec)

/-- 'covenantlaw13.ValueOwn', WHERE WHAT IT READS IS OF BULK AT MOST 1048576: true; the input reads as it did. -/
def valueOwnUptoRow : OpenClaim := { program := "ythglmpkcfigelaa", sum := "21ee2e58449f9a3c231e877e49642a48bf7871aacf2e8ac1a2d3925950baabc0", func := "covenant/covenantlaw13.ValueOwn", spec := "valueOwn", unfollowed := true, recurses := true, apart := false, narrowed := true }
def ValueOwnUptoSaid : Prop := valueOwnUptoRow.holds Try.pinned (OpenSpec.upto valueOwnSpec)

/-- 'covenantlaw13.ValueChecks', WHERE WHAT IT READS IS OF BULK AT MOST 1048576: true; the input reads as it did. -/
def valueChecksUptoRow : OpenClaim := { program := "ythglmpkcfigelaa", sum := "21ee2e58449f9a3c231e877e49642a48bf7871aacf2e8ac1a2d3925950baabc0", func := "covenant/covenantlaw13.ValueChecks", spec := "valueChecks", unfollowed := true, recurses := true, apart := false, narrowed := true }
def ValueChecksUptoSaid : Prop := valueChecksUptoRow.holds Try.pinned (OpenSpec.upto valueChecksSpec)

/-- 'covenantlaw13.ValueSames', WHERE WHAT IT READS IS OF BULK AT MOST 1048576: true; the input reads as it did. -/
def valueSamesUptoRow : OpenClaim := { program := "ythglmpkcfigelaa", sum := "21ee2e58449f9a3c231e877e49642a48bf7871aacf2e8ac1a2d3925950baabc0", func := "covenant/covenantlaw13.ValueSames", spec := "valueSames", unfollowed := true, recurses := true, apart := false, narrowed := true }
def ValueSamesUptoSaid : Prop := valueSamesUptoRow.holds Try.pinned (OpenSpec.upto valueSamesSpec)

end Rows
end Go.Proofs.Ythglmpkcfigelaa
