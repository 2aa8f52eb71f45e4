/-
  The law DictOver: fields are gone over as they were when All was called, whatever is done meanwhile. Conditions: as stated.
-/
import Derived.Test.YthgdkmbcibfehaaDoorDcV
import Derived.Test.YthgdkmbcibfehaaDoorDcW
import Derived.Test.YthgdkmbcibfehaaDoorDcX
set_option maxRecDepth 100000
set_option linter.unusedVariables false
namespace Go.Proofs.YthgdkmbcibfehaaDoor.DcT
open Go Go.RowKit Go.Proofs.YthgdkmbcibfehaaDoor.Mem Go.Proofs.YthgdkmbcibfehaaDoor.NumA Go.Proofs.YthgdkmbcibfehaaDoor.NumB Go.Proofs.YthgdkmbcibfehaaDoor.NumE Go.Proofs.YthgdkmbcibfehaaDoor.DcA Go.Proofs.YthgdkmbcibfehaaDoor.DcD Go.Proofs.YthgdkmbcibfehaaDoor.DcN
theorem over_law (A : Option Addr) (n c : Nat) (l : List Fld) (lv : Int) (W : World) (hr : Rd W 2 A n c (l.flatMap fF)) (hl : l.length = n) (h1 : ∀ x ∈ l, fOK x) (h2 : (l.map fM).sum ≤ 1048576)
    (h4 : -9223372036854775808 ≤ lv) (h5 : lv ≤ 9223372036854775807) (hL : Laid W) :
    Calls Tryd.prog 7 #[.slice A n c, .int .i64 lv] W fun e w' => e = .returned (.bool true) ∧ Below W.heap.size W w' := by
  subst hl
  have hn : l.length ≤ 1048576 := by have := LawR.len_sum fM (fun x => by unfold fM; omega) l; omega
  by_cases hlo : lv < 1
  · exact DcW.over_none A c l lv W hr (Gd.of_sum h2) hn ⟨h4, h5⟩ hlo hL
  · by_cases hhi : (l.length : Int) < lv
    · exact DcX.over_far A c l lv W hr (Gd.of_sum h2) hn ⟨h4, h5⟩ hhi hL
    · have e : lv = ((lv.toNat : Nat) : Int) := by omega
      rw [e]
      exact DcV.over_stop A c l lv.toNat (by omega) (by omega) W hr (Gd.of_sum h2) hn hL
end Go.Proofs.YthgdkmbcibfehaaDoor.DcT
