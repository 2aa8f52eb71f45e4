/-
  Plain laws of pieces. Conditions: as stated.
-/
import Derived.Test.YtgbgdgncdanblaaDqC
set_option linter.unusedSimpArgs false
set_option linter.unusedVariables false
namespace Go.Proofs.Ytgbgdgncdanblaa.DqK
open Go.RowKit Go.Proofs.Ytgbgdgncdanblaa.DqC

theorem piece_of {l : List Int} {f t : Int} {a b : Nat} (h : endsN l.length f t = ((a : Int), (b : Int))) : pieceL l f t = (l.take b).drop a := by
  unfold pieceL; rw [h]; simp
theorem piece_all (l : List Int) : pieceL l 0 (-1) = l := by
  by_cases h : l.length = 0
  · have : l = [] := List.eq_nil_of_length_eq_zero h
    subst this; decide
  · rw [piece_of (a := 0) (b := l.length) (by unfold endsN; grind)]; simp
theorem piece_past (l : List Int) (t : Int) : pieceL l l.length t = [] := by
  rw [piece_of (a := 0) (b := 0) (by unfold endsN; grind)]; simp
theorem piece_min (l : List Int) (h : l.length ≤ 17592186044416) : pieceL l (-9223372036854775808) (-9223372036854775808) = [] := by
  rw [piece_of (a := 0) (b := 0) (by unfold endsN; grind)]; simp
theorem piece_head (l : List Int) (k : Nat) (h : k < l.length) : pieceL l 0 k = l.take (k + 1) := by
  rw [piece_of (a := 0) (b := k + 1) (by unfold endsN; grind)]; simp
theorem piece_tail (l : List Int) (k : Nat) (h : k < l.length) : pieceL l k (-1) = l.drop k := by
  rw [piece_of (a := k) (b := l.length) (by unfold endsN; grind)]; simp
theorem piece_rest (l : List Int) (k : Nat) (h : k < l.length) (hl : l.length ≤ 17592186044416) : pieceL l k 9223372036854775807 = l.drop k := by
  rw [piece_of (a := k) (b := l.length) (by unfold endsN; grind)]; simp
theorem piece_one (l : List Int) (k : Nat) (h : k < l.length) : pieceL l k k = [l[k]] := by
  rw [piece_of (a := k) (b := k + 1) (by unfold endsN; grind), List.drop_take]
  rw [show k + 1 - k = 1 by omega, List.drop_eq_getElem_cons h]; rfl
theorem piece_both (l : List Int) (k : Nat) (h : k + 1 < l.length) : pieceL l 0 k ++ pieceL l ((k : Int) + 1) (-1) = l := by
  have e : ((k : Int) + 1) = ((k + 1 : Nat) : Int) := rfl
  rw [piece_head l k (by omega), e, piece_tail l (k + 1) h]; simp
theorem place_at (n k : Nat) (h : k < n) : placeN n k = some k := by unfold placeN; grind
theorem place_back (n k : Nat) (h : k < n) : placeN n ((k : Int) - n) = some k := by unfold placeN; grind
end Go.Proofs.Ytgbgdgncdanblaa.DqK
