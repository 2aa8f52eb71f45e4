/-
  slices.Grow of none, slices.Concat of rows. Conditions: as stated.
-/
import Derived.Test.YtiffdkagmnpjiaaTbC
import Derived.Lib.AppendZerosOnto
import Derived.Lib.SliceRun
set_option maxRecDepth 100000
set_option linter.unusedSimpArgs false
set_option linter.unusedVariables false
namespace Go.Proofs.Ytiffdkagmnpjiaa.TbD
open Go.RowKit Go.Proofs.Ytiffdkagmnpjiaa.Mem Go.Proofs.Ytiffdkagmnpjiaa.TbA Go.Proofs.Ytiffdkagmnpjiaa.TbB

abbrev zS : Value := .agg #[.string ⟨#[]⟩, .int .i64 0, .bool false, .bool false, .int .i64 0, .int .i64 0, .int .i64 0]
theorem zero_size (k : Nat) : (Builtin.zeroCells zS.cells k).size = k * 7 := by
  simp [Builtin.zeroCells, Value.cells]
set_option maxHeartbeats 2000000 in
theorem grow_calls (n : Nat) (w : World) (h0 : 0 < n) (hn : n ≤ 1048576) :
    Calls Try.prog 34 #[.slice none 0 0, .int .i64 n] w fun e w' => ∃ v, e = .returned v ∧ OwnP w' w.heap.size v [] ∧ Below w.heap.size w w' := by
  obtain ⟨ii, hii, hz0, hz1, hz2⟩ := zP.info
  have hold : (Builtin.firstCells ii.size 0 (.slice none 0 0)).run Try.prog w.drew = .ok ([] : List Value).toArray w.drew := by
    simp [Builtin.firstCells]
  have hrz : ∀ ty, (Builtin.append_ #[29, 3] ty #[.slice none 0 0, .int .i64 n]).run Try.prog w =
      .ok (.slice (some ⟨w.heap.size, 0, none⟩) n (grownCap w n 0 23)) (w.drew.alloc (.cells (([] : List Value).toArray ++ Builtin.zeroCells zS.cells n ++ Builtin.zeroCells zS.cells (grownCap w n 0 23 - n)) 23)) := fun ty => by
    have h := Lib.run_append_grow_zeros w 29 3 ty 23 ii _ .i64 .i64 Try.underlying29 Try.underlying3 hii hz0 none 0 0 [] hold n h0 (by omega) (by omega) (by omega) (by rw [hz2]; omega) (by rw [hz2, Nat.zero_add]; exact growslice_fits (by omega) (by omega))
    rw [Nat.zero_add] at h
    exact h
  obtain ⟨G, hG⟩ : ∃ G, G = grownCap w n 0 23 := ⟨_, rfl⟩
  have hGn : n ≤ G := by rw [hG]; exact grownCap_ge w _ _ _
  have hGm : G ≤ maxLen := by
    have := grownCap_le_maxLen w n 0 23 (by unfold maxLen; omega)
    rw [← hG] at this
    exact this
  obtain ⟨ROW, hROW⟩ : ∃ ROW : Array Value, ROW = ([] : List Value).toArray ++ Builtin.zeroCells zS.cells n ++ Builtin.zeroCells zS.cells (G - n) := ⟨_, rfl⟩
  rw [← hG] at hrz
  rw [← hROW] at hrz
  have hRl : ROW.size = G * 7 := by
    rw [hROW, Array.size_append, Array.size_append, zero_size, zero_size, List.size_toArray, List.length_nil]
    omega
  clear hG hROW
  have hGb : G ≤ 9223372036854775807 := hGm
  go_enter Try.func34, Try.ntmps34
  go_wp2_with (at_builtin; refine Lib.wpList_append_run _ rfl _ _ _ _ rfl _ _ rfl rfl _ _ (hrz _) ?_)
  go_ret
  refine ⟨_, rfl, ⟨rfl, .inr ⟨w.heap.size, G, ROW, rfl, Nat.le_refl _, heap_alloc_new w.drew _, Nat.zero_le _, hGm, hRl, by simp [sps]⟩⟩, ?_⟩
  exact ((Below.refl _ w).drew).alloc (Nat.le_refl _) _
end Go.Proofs.Ytiffdkagmnpjiaa.TbD
