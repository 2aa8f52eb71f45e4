/-
  RankOver: its three ways joined; the frame's form. Conditions: as stated.
-/
import Derived.Test.YtakhcfemakapbaaGreatDoorRvA
import Derived.Test.YtakhcfemakapbaaGreatDoorRvB
import Derived.Test.YtakhcfemakapbaaGreatDoorRvC
set_option maxRecDepth 100000
set_option linter.unusedSimpArgs false
set_option linter.unusedVariables false
namespace Go.Proofs.YtakhcfemakapbaaGreatDoor.RvD
open Go Go.RowKit Go.Proofs.YtakhcfemakapbaaGreatDoor.Mem Go.Proofs.YtakhcfemakapbaaGreatDoor.NumE Go.Proofs.YtakhcfemakapbaaGreatDoor.RkC Go.Proofs.YtakhcfemakapbaaGreatDoor.RkB Go.Proofs.YtakhcfemakapbaaGreatDoor.RkP Go.Proofs.YtakhcfemakapbaaGreatDoor.RjM

theorem over_law (A : Option Addr) (n c : Nat) (z : List (ByteArray × Int)) (lv : Int) (W : World) (hr : Rd W 2 A n c (z.flatMap scF)) (hl : z.length = n) (h1 : ∀ x ∈ z, scOK x) (h2 : (z.map scM).sum ≤ 1048576) (l0 : -9223372036854775808 ≤ lv) (l1 : lv ≤ 9223372036854775807) (hL : Laid W) :
    Calls Tryz.prog 9 #[.slice A n c, .int .i64 lv] W fun e w' => e = .returned (.bool true) ∧ Below W.heap.size W w' := by
  have hn : (toEn z).length = n := by rw [to_len]; exact hl
  have hb : (toEn z).length ≤ 1048576 := by rw [to_len]; exact len_of h2
  have hr2 := rd_of hr
  rw [← hn] at hr2 ⊢
  by_cases hlo : lv < 1
  · exact RvB.over_none A c (toEn z) lv W hr2 (gd_of h2) hb ⟨l0, l1⟩ hlo hL
  by_cases hhi : ((toEn z).length : Int) < lv
  · exact RvC.over_far A c (toEn z) lv W hr2 (gd_of h2) hb ⟨l0, l1⟩ hhi hL
  obtain ⟨Q, rfl⟩ : ∃ Q : Nat, lv = Q := ⟨lv.toNat, by omega⟩
  exact RvA.over_stop A c (toEn z) Q (by omega) (by omega) W hr2 (gd_of h2) hb hL
end Go.Proofs.YtakhcfemakapbaaGreatDoor.RvD
