/-
  The document's lets, cut. Conditions: as stated.
  The document's Pop, Slice. Conditions: as stated.
-/
import Derived.Test.YtakhcfemakapbaaDoorRgG
import Derived.Test.YtakhcfemakapbaaDoorRgF
set_option maxRecDepth 100000
set_option linter.unusedSimpArgs false
set_option linter.unusedVariables false
namespace Go.Proofs.YtakhcfemakapbaaDoor.RjD
open Go Go.RowKit Go.Shelf Go.Sort Go.Proofs.YtakhcfemakapbaaDoor.Mem Go.Proofs.YtakhcfemakapbaaDoor.DuA Go.Proofs.YtakhcfemakapbaaDoor.DuM Go.Proofs.YtakhcfemakapbaaDoor.DuN Go.Proofs.YtakhcfemakapbaaDoor.RkA Go.Proofs.YtakhcfemakapbaaDoor.RkC Go.Proofs.YtakhcfemakapbaaDoor.RkB Go.Proofs.YtakhcfemakapbaaDoor.RkE Go.Proofs.YtakhcfemakapbaaDoor.RkI Go.Proofs.YtakhcfemakapbaaDoor.RkP Go.Proofs.YtakhcfemakapbaaDoor.RkR Go.Proofs.YtakhcfemakapbaaDoor.RkS Go.Proofs.YtakhcfemakapbaaDoor.RkY

theorem cmpI_in (a b : Int) : -1 ≤ cmpI a b ∧ cmpI a b ≤ 1 := by unfold cmpI; split; omega; split <;> omega
theorem cmpT_in (a b : ByteArray) : -1 ≤ cmpT a b ∧ cmpT a b ≤ 1 := by unfold cmpT; split; omega; split <;> omega
theorem cut_is (l : List En) (skip most : Int) (S : Nat) (hS : max 0 (min skip (l.length : Int)) = (S : Int)) : cutL l skip most = if 0 ≤ most ∧ most < ((l.length - S : Nat) : Int) then (l.drop S).take most.toNat else l.drop S := by
  have hd : l.drop skip.toNat = l.drop S := by
    rcases Nat.lt_or_ge l.length skip.toNat with h | h
    · rw [List.drop_of_length_le (by omega), List.drop_of_length_le (by omega)]
    · rw [show skip.toNat = S by omega]
  unfold cutL
  rw [hd]
  by_cases h1 : most < 0
  · rw [if_pos h1, if_neg (by omega)]
  · rw [if_neg h1]
    by_cases h2 : most < ((l.length - S : Nat) : Int)
    · rw [if_pos ⟨by omega, h2⟩]
    · rw [if_neg (fun h => h2 h.2), List.take_of_length_le (by rw [List.length_drop]; omega)]
end Go.Proofs.YtakhcfemakapbaaDoor.RjD
set_option maxRecDepth 100000
set_option linter.unusedSimpArgs false
set_option linter.unusedVariables false
namespace Go.Proofs.YtakhcfemakapbaaDoor.RjH
open Go Go.RowKit Go.Shelf Go.Sort Go.Proofs.YtakhcfemakapbaaDoor.Mem Go.Proofs.YtakhcfemakapbaaDoor.DuA Go.Proofs.YtakhcfemakapbaaDoor.DuM Go.Proofs.YtakhcfemakapbaaDoor.DuN Go.Proofs.YtakhcfemakapbaaDoor.RkA Go.Proofs.YtakhcfemakapbaaDoor.RkC Go.Proofs.YtakhcfemakapbaaDoor.RkB Go.Proofs.YtakhcfemakapbaaDoor.RkE Go.Proofs.YtakhcfemakapbaaDoor.RkF Go.Proofs.YtakhcfemakapbaaDoor.RkI Go.Proofs.YtakhcfemakapbaaDoor.RkP Go.Proofs.YtakhcfemakapbaaDoor.RkR Go.Proofs.YtakhcfemakapbaaDoor.RkX Go.Proofs.YtakhcfemakapbaaDoor.RkY Go.Proofs.YtakhcfemakapbaaDoor.RjB Go.Proofs.YtakhcfemakapbaaDoor.RjD

end Go.Proofs.YtakhcfemakapbaaDoor.RjH
