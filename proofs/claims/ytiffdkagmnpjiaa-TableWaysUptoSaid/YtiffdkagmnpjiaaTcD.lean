/-
  The law TableWays. Conditions: as stated.
-/
import Derived.Test.YtiffdkagmnpjiaaTcA
import Derived.Test.YtiffdkagmnpjiaaTcB
import Derived.Test.YtiffdkagmnpjiaaTcC
set_option maxRecDepth 100000
set_option linter.unusedSimpArgs false
set_option linter.unusedVariables false
namespace Go.Proofs.Ytiffdkagmnpjiaa.TcD
open Go.RowKit Go.Proofs.Ytiffdkagmnpjiaa.Mem Go.Proofs.Ytiffdkagmnpjiaa.TbA Go.Proofs.Ytiffdkagmnpjiaa.TbN Go.Proofs.Ytiffdkagmnpjiaa.TbR

theorem first_ar : (rowsL[0]?).map (fun r => decide (0 ≤ r.ar)) = some true := by kernel_rfl
theorem ways_law (at_ : Int) (A : Option Addr) (n c : Nat) (words : List ByteArray) (w : World) (h1 : -9223372036854775808 ≤ at_) (h2 : at_ ≤ 9223372036854775807) (hr : RdS w A n c words) (hs : Small words) : Calls Try.prog 7 #[.int .i64 at_, .slice A n c] w fun e w' => e = .returned (.bool true) ∧ Below w.heap.size w w' := by
  rcases Int.lt_or_le at_ 0 with h | h
  · obtain ⟨x, hx⟩ : ∃ x, rowsL[0]? = some x := ⟨_, List.getElem?_eq_getElem (by rw [TbG.rowsL_len]; decide)⟩
    have hf := first_ar
    rw [hx] at hf
    simp at hf
    exact TcA.way at_ A n c words w h1 h2 hr hs 0 (by decide) x hx ⟨h, rfl⟩ (by omega)
  · have he : at_.tmod 118 = ((at_.tmod 118).toNat : Int) := by rw [Int.tmod_eq_emod_of_nonneg h]; omega
    have hm : (at_.tmod 118).toNat < 118 := by rw [Int.tmod_eq_emod_of_nonneg h]; omega
    obtain ⟨x, hx⟩ : ∃ x, rowsL[(at_.tmod 118).toNat]? = some x := ⟨_, List.getElem?_eq_getElem (by rw [TbG.rowsL_len]; exact hm)⟩
    rcases Int.lt_or_le x.ar 0 with ha | ha
    · exact TcC.way at_ A n c words w h1 h2 hr hs _ hm x hx ⟨h, he⟩ (by omega)
    · exact TcB.way at_ A n c words w h1 h2 hr hs _ hm x hx ⟨h, he⟩ (by omega)
theorem ways_upto (at_ : Int) (A : Option Addr) (n c : Nat) (l : List ByteArray) (W : World) (h1 : -9223372036854775808 ≤ at_) (h2 : at_ ≤ 9223372036854775807) (hr : Rd W 1 A n c (l.flatMap LawR.sF)) (hl : l.length = n) (hok : ∀ x ∈ l, LawR.sOK x) (hb : (l.map LawR.sM).sum ≤ 1048576) :
    Calls Try.prog 7 #[.int .i64 at_, .slice A n c] W fun e w' => e = .returned (.bool true) ∧ Below W.heap.size W w' :=
  ways_law at_ A n c l W h1 h2 (by rw [TbW.strs_flat] at hr; exact hr) (TbW.small_of hb)
end Go.Proofs.Ytiffdkagmnpjiaa.TcD
