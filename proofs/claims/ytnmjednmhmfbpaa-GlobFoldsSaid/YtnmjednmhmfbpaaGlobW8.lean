/-
  Fold and the reference's Fold tell whether the pattern means the text when letters' case does not count. Conditions: both have fewer than 2^47 bytes.
-/
import Derived.Test.YtnmjednmhmfbpaaGlobW6
import Derived.Test.YtnmjednmhmfbpaaGlobW7
import Derived.Test.YtnmjednmhmfbpaaBytes
set_option maxRecDepth 100000
/-! The walks of Fold and of what it leans on. -/
namespace Go.Proofs.Ytnmjednmhmfbpaa.GlobW8
open Go.RowKit Go.Proofs.Ytnmjednmhmfbpaa.GlobA Go.Proofs.Ytnmjednmhmfbpaa.GlobM Go.Proofs.Ytnmjednmhmfbpaa.Bytes

set_option maxHeartbeats 1000000 in
theorem small_calls (s : ByteArray) (w : World) (hs : s.size ≤ 281474976710656) :
    Calls Try.prog 22 #[.string s] w fun e w' => e = .returned (.string ⟨(lowL s.data.toList).toArray⟩) ∧ Below w.heap.size w w' := by
  have hl : Hid (s.data.toList.length = s.size) := bytes_len s
  have hcv := Lib.run_convert_string_bytes (P := Try.prog) w 9 29 5 s Try.underlying9 Try.underlying29 Try.underlying5
  have hB0 := Bts.made w 5 s
  have hb0 := below_made w 5 s
  go_enter Try.func22, Try.ntmps22
  go_wp2
  clear hcv
  go_loopw [10] (fun i wr => ∃ j : Nat, j ≤ s.size ∧ i = .int .i64 j ∧ Bts wr w.heap.size 5 (lowL (s.data.toList.take j) ++ s.data.toList.drop j) ∧ Below w.heap.size w wr) (fun i _ => s.size - (intOf i).toNat)
  case atStart => exact ⟨0, Nat.zero_le _, rfl, by simpa [lowL] using hB0, hb0⟩
  case round =>
    clear hB0 hb0
    obtain ⟨j, h1, rfl, hB, hb⟩ := hrel
    have hml : Hid ((lowL (s.data.toList.take j) ++ s.data.toList.drop j).length = s.size) := by unfold Hid; rw [mid_len, hl.out]
    by_cases hlt : j < s.size
    · obtain ⟨x, hx⟩ : ∃ x, s.data.toList[j]? = some x := ⟨_, bytes_at s j hlt⟩
      have Hx := Lib.hid hx
      have c1 := hB.cell (mid_get hx)
      have f1 := hB.free (j := j) (by rw [hml.out]; exact hlt)
      have hP := Lib.hid (hB.put (j := j) (by rw [hml.out]; exact hlt) (lowB x))
      rw [mid_set hx] at hP
      clear hx
      go_wp2
      · exact ⟨⟨j + 1, by omega, by go_num, by have := hP.out; rw [low_yes ‹_› ‹_›] at this; exact this, hb.setCell (p := ⟨w.heap.size, j, none⟩) (Nat.le_refl _) _⟩, by simp [intOf]; omega⟩
      · exact ⟨⟨j + 1, by omega, by go_num, by rw [← mid_same Hx.out (low_no (by omega))]; exact hB, hb⟩, by simp [intOf]; omega⟩
      · exact ⟨⟨j + 1, by omega, by go_num, by rw [← mid_same Hx.out (low_no (by omega))]; exact hB, hb⟩, by simp [intOf]; omega⟩
    · have hcv2 := hB.back (grownCap w s.size 0 5) Try.underlying29 Try.underlying5 Try.underlying9
      rw [hml.out] at hcv2
      go_wp2
      go_ret
      exact ⟨by rw [List.take_of_length_le (by rw [hl.out]; omega), drop0 (by rw [hl.out]; omega), List.append_nil]; rfl, hb⟩

set_option maxHeartbeats 1000000 in
theorem lower_calls (s : ByteArray) (w : World) (hs : s.size ≤ 281474976710656) :
    Calls Try.prog 23 #[.string s] w fun e w' => e = .returned (.string ⟨(lowL s.data.toList).toArray⟩) ∧ Below w.heap.size w w' := by
  have hl : Hid (s.data.toList.length = s.size) := bytes_len s
  have hcv := Lib.run_convert_string_bytes (P := Try.prog) w 9 29 5 s Try.underlying9 Try.underlying29 Try.underlying5
  have hB0 := Bts.made w 5 s
  have hb0 := below_made w 5 s
  go_enter Try.func23, Try.ntmps23
  go_wp2
  clear hcv
  go_loopw [4] (fun i wr => ∃ j : Nat, j ≤ s.size ∧ i = .int .i64 j ∧ Bts wr w.heap.size 5 (lowL (s.data.toList.take j) ++ s.data.toList.drop j) ∧ Below w.heap.size w wr) (fun i _ => s.size - (intOf i).toNat)
  case atStart => exact ⟨0, Nat.zero_le _, rfl, by simpa [lowL] using hB0, hb0⟩
  case round =>
    clear hB0 hb0
    obtain ⟨j, h1, rfl, hB, hb⟩ := hrel
    have hml : Hid ((lowL (s.data.toList.take j) ++ s.data.toList.drop j).length = s.size) := by unfold Hid; rw [mid_len, hl.out]
    by_cases hlt : j < s.size
    · obtain ⟨x, hx⟩ : ∃ x, s.data.toList[j]? = some x := ⟨_, bytes_at s j hlt⟩
      have Hx := Lib.hid hx
      have c1 := hB.cell (mid_get hx)
      have f1 := hB.free (j := j) (by rw [hml.out]; exact hlt)
      have hP := Lib.hid (hB.put (j := j) (by rw [hml.out]; exact hlt) (lowB x))
      rw [mid_set hx] at hP
      clear hx
      go_wp2
      · exact ⟨⟨j + 1, by omega, by go_num, by have := hP.out; rw [low_yes ‹_› ‹_›] at this; exact this, hb.setCell (p := ⟨w.heap.size, j, none⟩) (Nat.le_refl _) _⟩, by simp [intOf]; omega⟩
      · exact ⟨⟨j + 1, by omega, by go_num, by rw [← mid_same Hx.out (low_no (by omega))]; exact hB, hb⟩, by simp [intOf]; omega⟩
      · exact ⟨⟨j + 1, by omega, by go_num, by rw [← mid_same Hx.out (low_no (by omega))]; exact hB, hb⟩, by simp [intOf]; omega⟩
    · have hcv2 := hB.back (grownCap w s.size 0 5) Try.underlying29 Try.underlying5 Try.underlying9
      rw [hml.out] at hcv2
      go_wp2
      go_ret
      exact ⟨by rw [List.take_of_length_le (by rw [hl.out]; omega), drop0 (by rw [hl.out]; omega), List.append_nil]; rfl, hb⟩

theorem size_low (s : ByteArray) : (⟨(lowL s.data.toList).toArray⟩ : ByteArray).size = s.size := by
  show (lowL s.data.toList).toArray.size = s.data.size
  simp [lowL]

set_option maxHeartbeats 1000000 in
theorem fold_calls (P S : ByteArray) (w : World) (hP : P.size ≤ 140737488355327) (hS : S.size ≤ 140737488355327) :
    Calls Try.prog 13 #[.string P, .string S] w fun e w' => e = .returned (.bool (means (lowL P.data.toList) (lowL S.data.toList))) ∧ Below w.heap.size w w' := by
  go_enter Try.func13, Try.ntmps13
  go_wp2_with fail
  refine (small_calls P _ (by omega)).mono ?_
  rintro e w1 ⟨rfl, b1⟩
  go_wp2_with fail
  refine (small_calls S _ (by omega)).mono ?_
  rintro e w2 ⟨rfl, b2⟩
  go_wp2_with fail
  refine (GlobW6.match_calls _ _ _ (by rw [size_low]; omega) (by rw [size_low]; omega)).mono ?_
  rintro e w3 ⟨rfl, nd, rfl⟩
  go_wp2_with fail
  go_ret
  exact ⟨rfl, GlobW7.below_drawn (b1.trans (b2.mono b1.size)) nd⟩

set_option maxHeartbeats 1000000 in
theorem rfold_calls (P S : ByteArray) (w : World) (hP : P.size ≤ 140737488355327) (hS : S.size ≤ 140737488355327) :
    Calls Try.prog 14 #[.string P, .string S] w fun e w' => e = .returned (.bool (means (lowL P.data.toList) (lowL S.data.toList))) ∧ Below w.heap.size w w' := by
  go_enter Try.func14, Try.ntmps14
  go_wp2_with fail
  refine (lower_calls P _ (by omega)).mono ?_
  rintro e w1 ⟨rfl, b1⟩
  go_wp2_with fail
  refine (lower_calls S _ (by omega)).mono ?_
  rintro e w2 ⟨rfl, b2⟩
  go_wp2_with fail
  refine (GlobW7.rmatch_calls _ _ _ (by rw [size_low]; omega) (by rw [size_low]; omega)).mono ?_
  rintro e w3 ⟨b, rfl, rfl, b3⟩
  go_wp2_with fail
  go_ret
  exact ⟨rfl, (b1.trans (b2.mono b1.size)).trans (b3.mono (Nat.le_trans b1.size b2.size))⟩
end Go.Proofs.Ytnmjednmhmfbpaa.GlobW8
