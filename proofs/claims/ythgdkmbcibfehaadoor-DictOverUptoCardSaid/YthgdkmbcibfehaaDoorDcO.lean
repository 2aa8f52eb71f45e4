/-
  A Dict that is none; the law DictNobody. Conditions: as stated.
-/
import Derived.Test.YthgdkmbcibfehaaDoorDcN
set_option maxRecDepth 100000
set_option linter.unusedSimpArgs false
set_option linter.unusedVariables false
namespace Go.Proofs.YthgdkmbcibfehaaDoor.DcO
open Go.RowKit Go.Proofs.YthgdkmbcibfehaaDoor.Mem Go.Proofs.YthgdkmbcibfehaaDoor.NumA Go.Proofs.YthgdkmbcibfehaaDoor.NumB Go.Proofs.YthgdkmbcibfehaaDoor.NumE Go.Proofs.YthgdkmbcibfehaaDoor.DcA Go.Proofs.YthgdkmbcibfehaaDoor.DcB Go.Proofs.YthgdkmbcibfehaaDoor.DcC Go.Proofs.YthgdkmbcibfehaaDoor.DcD Go.Proofs.YthgdkmbcibfehaaDoor.DcE Go.Proofs.YthgdkmbcibfehaaDoor.DcF Go.Proofs.YthgdkmbcibfehaaDoor.DcG Go.Proofs.YthgdkmbcibfehaaDoor.DcI Go.Proofs.YthgdkmbcibfehaaDoor.DcJ Go.Proofs.YthgdkmbcibfehaaDoor.DcK Go.Proofs.YthgdkmbcibfehaaDoor.DcL Go.Proofs.YthgdkmbcibfehaaDoor.DcM Go.Proofs.YthgdkmbcibfehaaDoor.DcN

theorem get_nil (k : ByteArray) (w : World) : Calls Tryd.prog 21 #[.pointer none, .string k] w fun e w' => e = .returned (.tuple #[.string ⟨#[]⟩, .bool false]) ∧ w' = w := by
  go_enter Tryd.func21, Tryd.ntmps21
  go_wp2_with fail
  go_ret2
  exact ⟨rfl, rfl⟩
theorem incr_nil (k : ByteArray) (n : Int) (w : World) : Calls Tryd.prog 16 #[.pointer none, .string k, .int .i64 n] w fun e w' => e = .returned (.tuple #[.int .i64 0, .int .i64 0]) ∧ w' = w := by
  go_enter Tryd.func16, Tryd.ntmps16
  go_wp2_with fail
  go_ret2
  exact ⟨rfl, rfl⟩
theorem set_nil (k v : ByteArray) (w : World) : Calls Tryd.prog 12 #[.pointer none, .string k, .string v] w fun e w' => e = .returned (.bool false) ∧ w' = w := by
  go_enter Tryd.func12, Tryd.ntmps12
  go_wp2_with fail
  go_ret
  exact ⟨rfl, rfl⟩
theorem drop_nil (k : ByteArray) (w : World) : Calls Tryd.prog 14 #[.pointer none, .string k] w fun e w' => e = .returned (.bool false) ∧ w' = w := by
  go_enter Tryd.func14, Tryd.ntmps14
  go_wp2_with fail
  go_ret
  exact ⟨rfl, rfl⟩
theorem len_nil (w : World) : Calls Tryd.prog 23 #[.pointer none] w fun e w' => e = .returned (.int .i64 0) ∧ w' = w := by
  go_enter Tryd.func23, Tryd.ntmps23
  go_wp2_with fail
  go_ret
  exact ⟨rfl, rfl⟩
theorem fields_nil (w : World) : Calls Tryd.prog 20 #[.pointer none] w fun e w' => e = .returned (.slice none 0 0) ∧ w' = w := by
  go_enter Tryd.func20, Tryd.ntmps20
  go_wp2_with fail
  go_ret
  exact ⟨rfl, rfl⟩
theorem after_nil (k : ByteArray) (n : Int) (hn : inR n) (w : World) : Calls Tryd.prog 18 #[.pointer none, .string k, .int .i64 n] w fun e w' => ∃ A c, e = .returned (.slice A 0 c) ∧ Below w.heap.size w w' := by
  refine (after_gen none [] k n w List.Pairwise.nil hn (by decide) ((fields_nil _).mono ?_)).mono ?_
  · rintro e w' ⟨rfl, rfl⟩
    exact ⟨_, rfl, World.ownsRow_nil _ _ _ _, Below.refl _ _⟩
  · rintro e w' ⟨v, rfl, o, b⟩
    obtain ⟨A, n0, c, rfl⟩ : ∃ A n0 c, v = .slice A n0 c := by obtain ⟨A, c, h⟩ := own_form o; exact ⟨A, _, c, h⟩
    have h0 : (aftL [] k n).length = 0 := by simp [aftL]
    have hn0 := own_n o
    rw [h0] at hn0
    exact ⟨A, c, by rw [← hn0], b⟩
set_option maxHeartbeats 2000000 in
theorem nobody_law (k : ByteArray) (n : Int) (w : World) (hk : k.size ≤ 1048576) (n0 : -9223372036854775808 ≤ n) (n1 : n ≤ 9223372036854775807) (hL : Laid w) :
    Calls Tryd.prog 4 #[.string k, .int .i64 n] w fun e w' => e = .returned (.bool true) ∧ Below w.heap.size w w' := by
  have HL := Lib.hid hL
  clear hL
  go_enter Tryd.func4, Tryd.ntmps4
  go_wp2_with (first
    | (go_at_call 21; refine (get_nil k _).mono ?_; rintro e w2 ⟨rfl, rfl⟩)
    | (go_at_call 16; refine (incr_nil k n _).mono ?_; rintro e w2 ⟨rfl, rfl⟩)
    | (go_at_call 12; refine (set_nil k k _).mono ?_; rintro e w2 ⟨rfl, rfl⟩)
    | (go_at_call 14; refine (drop_nil k _).mono ?_; rintro e w2 ⟨rfl, rfl⟩)
    | (go_at_call 23; refine (len_nil _).mono ?_; rintro e w2 ⟨rfl, rfl⟩)
    | (go_at_call 20; refine (fields_nil _).mono ?_; rintro e w2 ⟨rfl, rfl⟩)
    | (go_at_call 18; refine (after_nil k 9 (by unfold inR; omega) _).mono ?_; rintro e w2 ⟨A, c, rfl, b2⟩)
    | (go_at_call 10; refine (sure_calls _ (HL.out.below b2)).mono ?_; rintro e w3 ⟨rfl, b3⟩))
  go_ret
  exact ⟨rfl, below_seq b2 b3⟩
end Go.Proofs.YthgdkmbcibfehaaDoor.DcO
