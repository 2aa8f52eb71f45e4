/-
  Lower, of the program and of the document. Conditions: fewer than 2^48 bytes.
-/
import Derived.Test.YtiffdkagmnpjiaaTbG
import Derived.Test.YtiffdkagmnpjiaaBytes
set_option maxRecDepth 100000
set_option linter.unusedSimpArgs false
set_option linter.unusedVariables false
namespace Go.Proofs.Ytiffdkagmnpjiaa.TbH
open Go.RowKit Go.Proofs.Ytiffdkagmnpjiaa.Mem Go.Proofs.Ytiffdkagmnpjiaa.TbA Go.Proofs.Ytiffdkagmnpjiaa.TbB Go.Proofs.Ytiffdkagmnpjiaa.Bytes

theorem bytes_len (s : ByteArray) : s.data.toList.length = s.size := by simp
theorem bytes_at (s : ByteArray) (j : Nat) (h : j < s.size) : s.data.toList[j]? = some (s.data.toList[j]'(by simpa using h)) := List.getElem?_eq_getElem _
theorem drop0 {α : Type} {l : List α} {n : Nat} (h : l.length ≤ n) : l.drop n = [] := List.drop_of_length_le h
set_option maxHeartbeats 1000000 in
theorem lower_calls (s : ByteArray) (w : World) (hs : s.size ≤ 281474976710656) :
    Calls Try.prog 10 #[.string s] w fun e w' => e = .returned (.string ⟨(lowL s.data.toList).toArray⟩) ∧ Below w.heap.size w w' := by
  have hl : Hid (s.data.toList.length = s.size) := bytes_len s
  have hcv := Lib.run_convert_string_bytes (P := Try.prog) w 9 37 5 s Try.underlying9 Try.underlying37 Try.underlying5
  have hB0 := Bts.made w 5 s
  have hb0 := below_made w 5 s
  go_enter Try.func10, Try.ntmps10
  go_wp2
  clear hcv
  go_loopw [10] (fun i wr => ∃ j : Nat, j ≤ s.size ∧ i = .int .i64 j ∧ Bts wr w.heap.size 5 (lowL (s.data.toList.take j) ++ s.data.toList.drop j) ∧ Below w.heap.size w wr) (fun i _ => s.size - (intOf i).toNat)
  case atStart => exact ⟨0, Nat.zero_le _, rfl, by simpa [lowL] using hB0, hb0⟩
  case round =>
    clear hB0 hb0
    obtain ⟨j, h1, rfl, hB, hb⟩ := hrel
    have hml : Hid ((lowL (s.data.toList.take j) ++ s.data.toList.drop j).length = s.size) := by unfold Hid; rw [mid_len, hl.out]
    by_cases hlt : j < s.size
    · obtain ⟨x, hx⟩ : ∃ x, s.data.toList[j]? = some x := ⟨_, bytes_at s j hlt⟩
      have Hx := Lib.hid hx
      have c1 := hB.cell (mid_get hx)
      have f1 := hB.free (j := j) (by rw [hml.out]; exact hlt)
      have hP := Lib.hid (hB.put (j := j) (by rw [hml.out]; exact hlt) (lowB x))
      rw [mid_set hx] at hP
      clear hx
      go_wp2
      · exact ⟨⟨j + 1, by omega, by go_num, by have := hP.out; rw [low_yes ‹_› ‹_›, show (x.toNat : Int) + 32 = (x.toNat : Int) + 97 - 65 by omega] at this; exact this, hb.setCell (p := ⟨w.heap.size, j, none⟩) (Nat.le_refl _) _⟩, by simp [intOf]; omega⟩
      · exact ⟨⟨j + 1, by omega, by go_num, by rw [← mid_same Hx.out (low_no (by omega))]; exact hB, hb⟩, by simp [intOf]; omega⟩
      · exact ⟨⟨j + 1, by omega, by go_num, by rw [← mid_same Hx.out (low_no (by omega))]; exact hB, hb⟩, by simp [intOf]; omega⟩
    · have hcv2 := hB.back (grownCap w s.size 0 5) Try.underlying37 Try.underlying5 Try.underlying9
      rw [hml.out] at hcv2
      go_wp2
      go_ret
      exact ⟨by rw [List.take_of_length_le (by rw [hl.out]; omega), drop0 (by rw [hl.out]; omega), List.append_nil]; rfl, hb⟩

set_option maxHeartbeats 1000000 in
theorem lowerR_calls (s : ByteArray) (w : World) (hs : s.size ≤ 281474976710656) :
    Calls Try.prog 11 #[.string s] w fun e w' => e = .returned (.string ⟨(lowL s.data.toList).toArray⟩) ∧ Below w.heap.size w w' := by
  have hl : Hid (s.data.toList.length = s.size) := bytes_len s
  have hcv := Lib.run_convert_string_bytes (P := Try.prog) w 9 37 5 s Try.underlying9 Try.underlying37 Try.underlying5
  have hB0 := Bts.made w 5 s
  have hb0 := below_made w 5 s
  go_enter Try.func11, Try.ntmps11
  go_wp2
  clear hcv
  go_loopw [4] (fun i wr => ∃ j : Nat, j ≤ s.size ∧ i = .int .i64 j ∧ Bts wr w.heap.size 5 (lowL (s.data.toList.take j) ++ s.data.toList.drop j) ∧ Below w.heap.size w wr) (fun i _ => s.size - (intOf i).toNat)
  case atStart => exact ⟨0, Nat.zero_le _, rfl, by simpa [lowL] using hB0, hb0⟩
  case round =>
    clear hB0 hb0
    obtain ⟨j, h1, rfl, hB, hb⟩ := hrel
    have hml : Hid ((lowL (s.data.toList.take j) ++ s.data.toList.drop j).length = s.size) := by unfold Hid; rw [mid_len, hl.out]
    by_cases hlt : j < s.size
    · obtain ⟨x, hx⟩ : ∃ x, s.data.toList[j]? = some x := ⟨_, bytes_at s j hlt⟩
      have Hx := Lib.hid hx
      have c1 := hB.cell (mid_get hx)
      have f1 := hB.free (j := j) (by rw [hml.out]; exact hlt)
      have hP := Lib.hid (hB.put (j := j) (by rw [hml.out]; exact hlt) (lowB x))
      rw [mid_set hx] at hP
      clear hx
      go_wp2
      · exact ⟨⟨j + 1, by omega, by go_num, by have := hP.out; rw [low_yes ‹_› ‹_›] at this; exact this, hb.setCell (p := ⟨w.heap.size, j, none⟩) (Nat.le_refl _) _⟩, by simp [intOf]; omega⟩
      · exact ⟨⟨j + 1, by omega, by go_num, by rw [← mid_same Hx.out (low_no (by omega))]; exact hB, hb⟩, by simp [intOf]; omega⟩
      · exact ⟨⟨j + 1, by omega, by go_num, by rw [← mid_same Hx.out (low_no (by omega))]; exact hB, hb⟩, by simp [intOf]; omega⟩
    · have hcv2 := hB.back (grownCap w s.size 0 5) Try.underlying37 Try.underlying5 Try.underlying9
      rw [hml.out] at hcv2
      go_wp2
      go_ret
      exact ⟨by rw [List.take_of_length_le (by rw [hl.out]; omega), drop0 (by rw [hl.out]; omega), List.append_nil]; rfl, hb⟩

theorem size_low (s : ByteArray) : (⟨(lowL s.data.toList).toArray⟩ : ByteArray).size = s.size := by
  show (lowL s.data.toList).toArray.size = s.data.size
  simp [lowL]

end Go.Proofs.Ytiffdkagmnpjiaa.TbH
