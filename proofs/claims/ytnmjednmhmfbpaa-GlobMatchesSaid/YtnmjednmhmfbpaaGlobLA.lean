/-
  The laws GlobMatches and GlobFolds, as walks: each call returns true and turns nothing that was there. Conditions: none.
-/
import Derived.Test.YtnmjednmhmfbpaaGlobL
set_option maxRecDepth 100000
/-! The walks of the laws on Match and Fold. -/
namespace Go.Proofs.Ytnmjednmhmfbpaa.GlobLA
open Go.RowKit Go.Proofs.Ytnmjednmhmfbpaa.GlobA Go.Proofs.Ytnmjednmhmfbpaa.GlobB Go.Proofs.Ytnmjednmhmfbpaa.GlobM Go.Proofs.Ytnmjednmhmfbpaa.Bytes Go.Proofs.Ytnmjednmhmfbpaa.GlobL

set_option maxHeartbeats 1000000 in
theorem walkGlobMatches (a0 a1 : ByteArray) (w0 : a0.size ≤ maxLen) (w1 : a1.size ≤ maxLen) (w : World) :
    Calls Try.prog 3 #[.string a0, .string a1] w fun e w' => e = .returned (.bool true) ∧ Below w.heap.size w w' := by
  unfold maxLen at w0 w1
  by_cases h0 : a0.size ≤ 4000
  · by_cases h1 : a1.size ≤ 4000
    · go_enter Try.func3, Try.ntmps3
      go_wp2_with fail
      refine (GlobW6.match_calls _ _ _ (by omega) (by omega)).mono ?_
      rintro e w1 ⟨rfl, nd, rfl⟩
      go_wp2_with fail
      refine (GlobW7.rmatch_calls _ _ _ (by omega) (by omega)).mono ?_
      rintro e w2 ⟨b, rfl, rfl, b2⟩
      have HB := Lib.hid ((GlobW7.below_drawn (Below.refl _ w) nd).trans b2)
      go_wp2_with fail
      refine (sure_calls _).mono ?_
      rintro e w3 ⟨rfl, b3⟩
      go_wp2_with fail
      go_ret
      exact ⟨rfl, HB.out.trans (b3.mono HB.out.size)⟩
    · go_enter Try.func3, Try.ntmps3
      go_wp2_with fail
      refine (sure_calls _).mono ?_
      rintro e w3 ⟨rfl, b3⟩
      go_wp2_with fail
      go_ret
      exact ⟨rfl, b3⟩
  · go_enter Try.func3, Try.ntmps3
    go_wp2_with fail
    refine (sure_calls _).mono ?_
    rintro e w3 ⟨rfl, b3⟩
    go_wp2_with fail
    go_ret
    exact ⟨rfl, b3⟩

set_option maxHeartbeats 1000000 in
theorem walkGlobFolds (a0 a1 : ByteArray) (w0 : a0.size ≤ maxLen) (w1 : a1.size ≤ maxLen) (w : World) :
    Calls Try.prog 4 #[.string a0, .string a1] w fun e w' => e = .returned (.bool true) ∧ Below w.heap.size w w' := by
  unfold maxLen at w0 w1
  by_cases h0 : a0.size ≤ 4000
  · by_cases h1 : a1.size ≤ 4000
    · go_enter Try.func4, Try.ntmps4
      go_wp2_with fail
      refine (GlobW8.fold_calls _ _ _ (by omega) (by omega)).mono ?_
      rintro e w1 ⟨rfl, b1⟩
      go_wp2_with fail
      refine (GlobW8.rfold_calls _ _ _ (by omega) (by omega)).mono ?_
      rintro e w2 ⟨rfl, b2⟩
      have HB := Lib.hid (b1.trans (b2.mono b1.size))
      go_wp2_with fail
      refine (sure_calls _).mono ?_
      rintro e w3 ⟨rfl, b3⟩
      go_wp2_with fail
      go_ret
      exact ⟨rfl, HB.out.trans (b3.mono HB.out.size)⟩
    · go_enter Try.func4, Try.ntmps4
      go_wp2_with fail
      refine (sure_calls _).mono ?_
      rintro e w3 ⟨rfl, b3⟩
      go_wp2_with fail
      go_ret
      exact ⟨rfl, b3⟩
  · go_enter Try.func4, Try.ntmps4
    go_wp2_with fail
    refine (sure_calls _).mono ?_
    rintro e w3 ⟨rfl, b3⟩
    go_wp2_with fail
    go_ret
    exact ⟨rfl, b3⟩
end Go.Proofs.Ytnmjednmhmfbpaa.GlobLA
