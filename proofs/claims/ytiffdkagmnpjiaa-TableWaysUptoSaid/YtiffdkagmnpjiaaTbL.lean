/-
  table.shown: a name as it may stand in an error. Conditions: as stated.
-/
import Derived.Test.YtiffdkagmnpjiaaTbJ
set_option maxRecDepth 100000
set_option linter.unusedSimpArgs false
set_option linter.unusedVariables false
namespace Go.Proofs.Ytiffdkagmnpjiaa.TbL
open Go.RowKit Go.Proofs.Ytiffdkagmnpjiaa.Mem Go.Proofs.Ytiffdkagmnpjiaa.TbA Go.Proofs.Ytiffdkagmnpjiaa.TbB Go.Proofs.Ytiffdkagmnpjiaa.Bytes Go.Proofs.Ytiffdkagmnpjiaa.TbI

def shB (c : UInt8) : UInt8 := if c.toNat < 32 ∨ 126 < c.toNat then 63 else c
abbrev mid (l : List UInt8) (j : Nat) : List UInt8 := (l.take j).map shB ++ l.drop j
section
variable {l : List UInt8} {j : Nat} {x : UInt8}
theorem mid_len (l : List UInt8) (j : Nat) : (mid l j).length = l.length := by simp [mid]; omega
theorem mid_get (h : l[j]? = some x) : (mid l j)[j]? = some x := by
  have hj := (List.getElem?_eq_some_iff.1 h).1
  rw [List.getElem?_append_right (by simp; omega)]
  simp [Nat.min_eq_left (Nat.le_of_lt hj), h]
theorem mid_set (h : l[j]? = some x) : (mid l j).set j (shB x) = mid l (j + 1) := by
  obtain ⟨hj, h2⟩ := List.getElem?_eq_some_iff.1 h
  rw [mid, List.set_append_right _ _ (by simp; omega)]
  have e : j - ((l.take j).map shB).length = 0 := by simp; omega
  rw [e, List.drop_eq_getElem_cons hj, h2, List.set_cons_zero, mid, List.take_add_one, h]
  simp
theorem mid_same (h : l[j]? = some x) (hn : shB x = x) : mid l j = mid l (j + 1) := by
  rw [← mid_set h, hn]
  apply List.ext_getElem?
  intro i
  by_cases hij : j = i
  · subst hij
    rw [mid_get h, List.getElem?_set_self (by rw [mid_len]; exact (List.getElem?_eq_some_iff.1 h).1)]
  · rw [List.getElem?_set_ne hij]
end
theorem sh_yes {x : UInt8} (h : (x.toNat : Int) < 32 ∨ (126 : Int) < x.toNat) : shB x = 63 := by
  unfold shB; rw [if_pos (by omega)]
theorem sh_no {x : UInt8} (h : ¬ ((x.toNat : Int) < 32 ∨ (126 : Int) < x.toNat)) : shB x = x := by
  unfold shB; rw [if_neg (by omega)]
set_option maxHeartbeats 1000000 in
theorem shown_calls (s : ByteArray) (w : World) (hs : s.size ≤ 281474976710656) :
    Calls Try.prog 33 #[.string s] w fun e w' => e = .returned (.string ⟨((s.data.toList.take 32).map shB).toArray⟩) ∧ Below w.heap.size w w' := by
  obtain ⟨T, hT⟩ : ∃ T, T = s.extract 0 (min (s.size : Int) 32).toNat := ⟨_, rfl⟩
  have hTl : T.data.toList = s.data.toList.take 32 := by
    rw [hT]
    simp [ByteArray.data_extract, Array.toList_extract]
    omega
  have hTs : T.size ≤ 32 := by
    have : T.data.toList.length ≤ 32 := by rw [hTl, List.length_take]; omega
    simpa using this
  rw [← hTl]
  have hl : Hid (T.data.toList.length = T.size) := TbH.bytes_len T
  have hcv := Lib.run_convert_string_bytes (P := Try.prog) w 9 37 5 T Try.underlying9 Try.underlying37 Try.underlying5
  have hB0 := Bts.made w 5 T
  have hb0 := below_made w 5 T
  have hT2 := hT.symm
  clear hTl hT
  go_enter Try.func33, Try.ntmps33
  go_wp2_with fail
  clear hcv hT2
  go_loopw [14] (fun i wr => ∃ j : Nat, j ≤ T.size ∧ i = .int .i64 j ∧ Bts wr w.heap.size 5 (mid T.data.toList j) ∧ Below w.heap.size w wr) (fun i _ => T.size - (intOf i).toNat)
  case atStart => exact ⟨0, Nat.zero_le _, rfl, by simpa [mid] using hB0, hb0⟩
  case round =>
    clear hB0 hb0
    obtain ⟨j, h1, rfl, hB, hb⟩ := hrel
    have hml : Hid ((mid T.data.toList j).length = T.size) := by unfold Hid; rw [mid_len, hl.out]
    by_cases hlt : j < T.size
    · obtain ⟨x, hx⟩ : ∃ x, T.data.toList[j]? = some x := ⟨_, TbH.bytes_at T j hlt⟩
      have Hx := Lib.hid hx
      have c1 := hB.cell (mid_get hx)
      have f1 := hB.free (j := j) (by rw [hml.out]; exact hlt)
      have hP := Lib.hid (hB.put (j := j) (by rw [hml.out]; exact hlt) (shB x))
      rw [mid_set hx] at hP
      clear hx
      go_wp2_with fail
      all_goals first
        | exact ⟨⟨j + 1, by omega, by go_num, by have := hP.out; rw [sh_yes (by omega)] at this; exact this, hb.setCell (p := ⟨w.heap.size, j, none⟩) (Nat.le_refl _) _⟩, by simp [intOf]; omega⟩
        | exact ⟨⟨j + 1, by omega, by go_num, by rw [← mid_same Hx.out (sh_no (by omega))]; exact hB, hb⟩, by simp [intOf]; omega⟩
    · have hcv2 := hB.back (grownCap w T.size 0 5) Try.underlying37 Try.underlying5 Try.underlying9
      rw [hml.out] at hcv2
      go_wp2_with fail
      go_ret
      exact ⟨by rw [mid, List.take_of_length_le (by rw [hl.out]; omega), List.drop_of_length_le (by rw [hl.out]; omega), List.append_nil]; rfl, hb⟩
end Go.Proofs.Ytiffdkagmnpjiaa.TbL
