/-
  The laws' walks as the frame asks for them. Conditions: as stated.
-/
import Derived.Test.YtiffdkagmnpjiaaTbU
import Derived.Test.YtiffdkagmnpjiaaLawR
set_option maxRecDepth 100000
set_option linter.unusedSimpArgs false
set_option linter.unusedVariables false
namespace Go.Proofs.Ytiffdkagmnpjiaa.TbW
open Go.RowKit Go.Proofs.Ytiffdkagmnpjiaa.Mem Go.Proofs.Ytiffdkagmnpjiaa.TbN Go.Proofs.Ytiffdkagmnpjiaa.TbR Go.Proofs.Ytiffdkagmnpjiaa.TbU

theorem strs_flat (l : List ByteArray) : l.flatMap LawR.sF = strs l := by
  induction l with
  | nil => rfl
  | cons x l ih => rw [List.flatMap_cons, ih]; rfl
theorem small_of {l : List ByteArray} (h : (l.map LawR.sM).sum ≤ 1048576) : Small l := by
  have h1 : ∀ (l : List ByteArray), l.length ≤ (l.map LawR.sM).sum ∧ ∀ s ∈ l, s.size ≤ (l.map LawR.sM).sum := by
    intro l
    induction l with
    | nil => exact ⟨Nat.le_refl _, fun s hs => by cases hs⟩
    | cons x l ih =>
      simp only [List.map_cons, List.sum_cons, List.length_cons]
      have hx : x.size + 1 ≤ LawR.sM x ∨ x.size ≤ LawR.sM x ∧ 1 ≤ LawR.sM x := by unfold LawR.sM; omega
      refine ⟨by omega, fun s hs => ?_⟩
      rcases List.mem_cons.1 hs with rfl | hs
      · omega
      · have := ih.2 s hs; omega
  obtain ⟨a, b⟩ := h1 l
  exact ⟨by omega, fun s hs => by have := b s hs; omega⟩
theorem finds_upto (name : ByteArray) (w : World) (hs : name.size ≤ 1048576) : Calls Try.prog 3 #[.string name] w fun e w' => e = .returned (.bool true) ∧ Below w.heap.size w w' := finds_law name w (by omega)
theorem checks_upto (A : Option Addr) (n c : Nat) (l : List ByteArray) (W : World) (hr : Rd W 1 A n c (l.flatMap LawR.sF)) (hl : l.length = n) (hok : ∀ x ∈ l, LawR.sOK x) (hb : (l.map LawR.sM).sum ≤ 1048576) :
    Calls Try.prog 5 #[.slice A n c] W fun e w' => e = .returned (.bool true) ∧ Below W.heap.size W w' :=
  checks_law A n c l W (by rw [strs_flat] at hr; exact hr) (small_of hb)
end Go.Proofs.Ytiffdkagmnpjiaa.TbW
