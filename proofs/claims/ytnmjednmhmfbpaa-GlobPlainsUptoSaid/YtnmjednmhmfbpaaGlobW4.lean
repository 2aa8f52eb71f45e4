/-
  What Plain and Quote hand back, whatever the text. Conditions: the text has at most 2^46 bytes.
-/
import Derived.Test.YtnmjednmhmfbpaaGlobW1
import Derived.Test.YtnmjednmhmfbpaaGlobB
import Derived.Test.YtnmjednmhmfbpaaBuilder
set_option maxRecDepth 100000
/-! The walks of Plain and Quote. -/
namespace Go.Proofs.Ytnmjednmhmfbpaa.GlobW4
open Go.RowKit Go.Proofs.Ytnmjednmhmfbpaa.GlobA Go.Proofs.Ytnmjednmhmfbpaa.GlobB

set_option maxHeartbeats 1000000 in
theorem quote_calls (s : ByteArray) (w : World) (hs : s.size ≤ 70368744177664) :
    Calls Try.prog 17 #[.string s] w fun e w' => e = .returned (.string ⟨(quoteL s.data.toList).toArray⟩) ∧ Below w.heap.size w w' := by
  have hl : Hid (s.data.toList.length = s.size) := bytes_len s
  go_enter Try.func17, Try.ntmps17
  go_wp2
  go_loopw [4] (fun i wr => ∃ j : Nat, j ≤ s.size ∧ i = .int .i64 j ∧ Lib.IsBuilderF 39 5 w.heap.size w.heap.size (Lib.byteCells (quoteL (s.data.toList.take j))) wr ∧ Below w.heap.size w wr) (fun i _ => s.size - (intOf i).toNat)
  case atStart => exact ⟨0, Nat.zero_le _, rfl, Builder.fresh w, (Below.refl _ _).alloc (Nat.le_refl _) _⟩
  case round =>
    obtain ⟨j, h1, rfl, hI, hb⟩ := hrel
    have hsz := hb.size
    by_cases hlt : j < s.size
    · have hq := quote_len (s.data.toList.take j)
      have hlen : (Lib.byteCells (quoteL (s.data.toList.take j))).length ≤ 2 * j := by
        rw [Lib.byteCells_length]; simp at hq; omega
      have hst := Lib.hid (quote_step (bytes_at s j hlt))
      clear hq
      go_wp2_with fail
      rotate_left 4
      · have sp : Hid (special s[j] = false) := sp0 ‹_› ‹_› ‹_› ‹_›
        refine (Builder.writeByte _ _ _ _ _ hI (by omega) hsz).mono ?_
        rintro e W1 ⟨rfl, i1, b1, -⟩
        have hb2 := hb.trans b1
        go_wp2_with fail
        go_roundw
        case rel => exact ⟨j + 1, by omega, by go_num, by rw [hst.out, sp.out]; simp only [Bool.false_eq_true, if_false, Lib.byteCells_append]; exact .inr i1, hb2⟩
        case measure => simp [intOf]; omega
      all_goals
        have sp : Hid (special s[j] = true) := by first | exact sp1 ‹_› | exact sp2 ‹_› | exact sp3 ‹_› | exact sp4 ‹_›
        refine (Builder.writeByte _ _ _ 92 _ hI (by omega) hsz).mono ?_
        rintro e W1 ⟨rfl, i1, b1, -⟩
        have z1 := b1.size
        have hb2 := hb.trans b1
        go_wp2_with fail
        refine (Builder.writeByte _ _ _ _ _ (.inr i1) (by simp; omega) (by omega)).mono ?_
        rintro e W2 ⟨rfl, i2, b2, -⟩
        go_wp2_with fail
        go_roundw
        case rel => exact ⟨j + 1, by omega, by go_num, by rw [hst.out, sp.out]; simp only [if_true, Lib.byteCells_append]; rw [List.append_assoc] at i2; exact .inr i2, hb2.trans b2⟩
        case measure => simp [intOf]; omega
    · go_wp2_with fail
      refine (Builder.text _ _ _ _ hI hsz).mono ?_
      rintro e W1 ⟨rfl, -, b1, -⟩
      go_wp2_with fail
      go_ret
      exact ⟨by rw [List.take_of_length_le (by rw [hl.out]; omega)]; rfl, hb.trans b1⟩

/-- What Plain hands back. -/
def PlainPost (l : List UInt8) (w : World) (e : Ending) (w' : World) : Prop :=
  ∃ t b, e = .returned (.tuple #[.string ⟨List.toArray t⟩, .bool b]) ∧ t = (plainL l).getD [] ∧ b = (plainL l).isSome ∧ Below w.heap.size w w'

set_option maxHeartbeats 1000000 in
theorem plain_calls (s : ByteArray) (w : World) (hs : s.size ≤ 70368744177664) :
    Calls Try.prog 15 #[.string s] w (PlainPost s.data.toList w) := by
  have hl : Hid (s.data.toList.length = s.size) := bytes_len s
  go_enter Try.func15, Try.ntmps15
  go_wp2
  go_loopw [5] (fun i wr => ∃ (j : Nat) (acc : List UInt8), j ≤ s.size ∧ acc.length ≤ j ∧ i = .int .i64 j ∧ Lib.IsBuilderF 39 5 w.heap.size w.heap.size (Lib.byteCells acc) wr ∧ Below w.heap.size w wr ∧ Hid (plainL s.data.toList = (plainL (s.data.toList.drop j)).map (acc ++ ·))) (fun i _ => s.size - (intOf i).toNat)
  case atStart => exact ⟨0, [], Nat.zero_le _, Nat.le_refl _, rfl, Builder.fresh w, (Below.refl _ _).alloc (Nat.le_refl _) _, by simp [Hid]⟩
  case round =>
    obtain ⟨j, acc, h1, h2, rfl, hI, hb, he⟩ := hrel
    have hsz := hb.size
    by_cases hlt : j < s.size
    · have hlen : (Lib.byteCells acc).length ≤ j := by rw [Lib.byteCells_length]; omega
      go_wp2_with fail
      · go_ret2
        have hq := plain_none (at_is (n := 42) hlt (is_of (x := (s[j].toNat : Int)) ‹_›)) (.inl rfl)
        exact ⟨[], false, rfl, by rw [he.out, hq]; rfl, by rw [he.out, hq]; rfl, hb⟩
      · go_ret2
        have hq := plain_none (at_is (n := 63) hlt (is_of (x := (s[j].toNat : Int)) ‹_›)) (.inr (.inl rfl))
        exact ⟨[], false, rfl, by rw [he.out, hq]; rfl, by rw [he.out, hq]; rfl, hb⟩
      · go_ret2
        have hq := plain_none (at_is (n := 91) hlt (is_of (x := (s[j].toNat : Int)) ‹_›)) (.inr (.inr rfl))
        exact ⟨[], false, rfl, by rw [he.out, hq]; rfl, by rw [he.out, hq]; rfl, hb⟩
      · have hq := Lib.hid (plain_esc (at_is (n := 92) hlt (is_of (x := (s[j].toNat : Int)) ‹_›)) (bytes_at s (j + 1) (by omega)))
        refine (Builder.writeByte _ _ _ _ _ hI (by omega) hsz).mono ?_
        rintro e W1 ⟨rfl, i1, b1, -⟩
        go_wp2_with fail
        go_roundw
        case rel => exact ⟨j + 2, acc ++ [s[j + 1]], by omega, by simp; omega, by go_num, by rw [Lib.byteCells_append]; exact .inr i1, hb.trans b1, he.out.trans (by rw [hq.out, map_acc])⟩
        case measure => simp [intOf]; omega
      · have hq := Lib.hid (plain_one (bytes_at s j hlt) (u8_isnt (n := 42) (by omega) (isnt_of (x := (s[j].toNat : Int)) ‹_›)) (u8_isnt (n := 63) (by omega) (isnt_of (x := (s[j].toNat : Int)) ‹_›)) (u8_isnt (n := 91) (by omega) (isnt_of (x := (s[j].toNat : Int)) ‹_›)) (fun _ => by rw [hl.out]; omega))
        refine (Builder.writeByte _ _ _ _ _ hI (by omega) hsz).mono ?_
        rintro e W1 ⟨rfl, i1, b1, -⟩
        go_wp2_with fail
        go_roundw
        case rel => exact ⟨j + 1, acc ++ [s[j]], by omega, by simp; omega, by go_num, by rw [Lib.byteCells_append]; exact .inr i1, hb.trans b1, he.out.trans (by rw [hq.out, map_acc])⟩
        case measure => simp [intOf]; omega
      · have hq := Lib.hid (plain_one (bytes_at s j hlt) (u8_isnt (n := 42) (by omega) (isnt_of (x := (s[j].toNat : Int)) ‹_›)) (u8_isnt (n := 63) (by omega) (isnt_of (x := (s[j].toNat : Int)) ‹_›)) (u8_isnt (n := 91) (by omega) (isnt_of (x := (s[j].toNat : Int)) ‹_›)) (fun e => absurd e (u8_isnt (n := 92) (by omega) (isnt_of (x := (s[j].toNat : Int)) ‹_›))))
        refine (Builder.writeByte _ _ _ _ _ hI (by omega) hsz).mono ?_
        rintro e W1 ⟨rfl, i1, b1, -⟩
        go_wp2_with fail
        go_roundw
        case rel => exact ⟨j + 1, acc ++ [s[j]], by omega, by simp; omega, by go_num, by rw [Lib.byteCells_append]; exact .inr i1, hb.trans b1, he.out.trans (by rw [hq.out, map_acc])⟩
        case measure => simp [intOf]; omega
    · go_wp2_with fail
      refine (Builder.text _ _ _ _ hI hsz).mono ?_
      rintro e W1 ⟨rfl, -, b1, -⟩
      go_wp2_with fail
      go_ret2
      have hq := plain_end (l := s.data.toList) (k := j) (by rw [hl.out]; omega)
      exact ⟨acc, true, rfl, by rw [he.out, hq]; simp, by rw [he.out, hq]; simp, hb.trans b1⟩
end Go.Proofs.Ytnmjednmhmfbpaa.GlobW4
