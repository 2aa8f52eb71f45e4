/-
  What the reference's Plain and Quote hand back, whatever the text. Conditions: the text has at most 2^46 bytes.
-/
import Derived.Test.YtnmjednmhmfbpaaGlobB
import Derived.Test.YtnmjednmhmfbpaaShelf
import Derived.Test.YtnmjednmhmfbpaaBase
set_option maxRecDepth 100000
/-! The walks of the reference's Plain and Quote. -/
namespace Go.Proofs.Ytnmjednmhmfbpaa.GlobW5
open Go.RowKit Go.Proofs.Ytnmjednmhmfbpaa.GlobA Go.Proofs.Ytnmjednmhmfbpaa.GlobB

/-- What Plain hands back. -/
def PlainPost (l : List UInt8) (w : World) (e : Ending) (w' : World) : Prop :=
  ∃ t b, e = .returned (.tuple #[.string ⟨List.toArray t⟩, .bool b]) ∧ t = (plainL l).getD [] ∧ b = (plainL l).isSome ∧ Below w.heap.size w w'

set_option maxHeartbeats 1000000 in
theorem rquote_calls (s : ByteArray) (w : World) (hs : s.size ≤ 70368744177664) :
    Calls Try.prog 18 #[.string s] w fun e w' => e = .returned (.string ⟨(quoteL s.data.toList).toArray⟩) ∧ Below w.heap.size w w' := by
  have hl : Hid (s.data.toList.length = s.size) := bytes_len s
  obtain ⟨i0, hi0, hz0, hz1, hz2⟩ := info_parts Shelf.extra167.infoByte
  have HI := Lib.hid hi0
  have HZ := Lib.hid hz0
  have HZ1 := Lib.hid hz1
  have HZ2 := Lib.hid hz2
  clear hi0 hz0 hz1 hz2
  go_enter Try.func18, Try.ntmps18
  go_wp2
  go_loopw [3, 4] (fun v i wr => ∃ j : Nat, j ≤ s.size ∧ i = .int .i64 j ∧ wr.ownsRow w.heap.size 5 1 v (quoteL (s.data.toList.take j)).length (Lib.byteCells (quoteL (s.data.toList.take j))) ∧ Below w.heap.size w wr) (fun _ i _ => s.size - (intOf i).toNat)
  case atStart => exact ⟨0, Nat.zero_le _, rfl, World.ownsRow_nil _ _ _ _, Below.refl _ _⟩
  case round =>
    obtain ⟨j, h1, rfl, hI, hb⟩ := hrel
    have hsz := hb.size
    by_cases hlt : j < s.size
    · have hq := quote_len (s.data.toList.take j)
      have hlen : (quoteL (s.data.toList.take j)).length ≤ 2 * j := by simp at hq; omega
      have hst := Lib.hid (quote_step (bytes_at s j hlt))
      clear hq
      go_wp2_with (first
        | (at_builtin; refine Base.wpList_append_one rfl (.tmp 33) (.tmp 34) _ rfl w.heap.size _ i0 _ 1 Try.underlying29 HI.out HZ.out HZ1.out HZ2.out rfl _ _ _ rfl hI (.int .u8 92) rfl rfl (by unfold maxLen; omega) (by omega) hsz ?_; intro v1 w1 o1 b1)
        | (at_builtin; refine Base.wpList_append_one rfl (.tmp 36) (.tmp 40) _ rfl w.heap.size _ i0 _ 1 Try.underlying29 HI.out HZ.out HZ1.out HZ2.out rfl _ _ _ rfl o1 _ rfl rfl (by unfold maxLen; omega) (by omega) (by have := b1.size; omega) ?_; intro v2 w2 o2 b2)
        | (at_builtin; refine Base.wpList_append_one rfl (.tmp 36) (.tmp 40) _ rfl w.heap.size _ i0 _ 1 Try.underlying29 HI.out HZ.out HZ1.out HZ2.out rfl _ _ _ rfl hI _ rfl rfl (by unfold maxLen; omega) (by omega) hsz ?_; intro v3 w3 o3 b3))
      rotate_left 4
      · have sp : special s[j] = false := by rw [special_eq]; simp only [Bool.or_eq_false_iff]; assumption
        exact ⟨⟨j + 1, by omega, by go_num, by rw [hst.out, sp]; simpa [Lib.byteCells] using o3, hb.trans b3⟩, by simp [intOf]; omega⟩
      all_goals
        have sp : special s[j] = true := by rw [special_eq]; simp only [Bool.or_eq_true]; first | assumption | exact .inl (.inl (.inl (beq_iff_eq.2 ‹_›))) | exact .inl (.inl (.inr (beq_iff_eq.2 ‹_›))) | exact .inl (.inr (beq_iff_eq.2 ‹_›))
        exact ⟨⟨j + 1, by omega, by go_num, by rw [hst.out, sp]; first | simpa [Lib.byteCells, ‹(s[j].toNat : Int) = 42›] using o2 | simpa [Lib.byteCells, ‹(s[j].toNat : Int) = 63›] using o2 | simpa [Lib.byteCells, ‹(s[j].toNat : Int) = 91›] using o2 | simpa [Lib.byteCells] using o2, (hb.trans b1).trans b2⟩, by simp [intOf]; omega⟩
    · have hcv := Base.convert_own (P := Try.prog) (dst := 9) Try.underlying29 Try.underlying5 Try.underlying9 hI
      go_wp2_with fail
      go_ret
      exact ⟨by rw [List.take_of_length_le (by rw [hl.out]; omega)]; rfl, hb⟩

set_option maxHeartbeats 1000000 in
theorem rplain_calls (s : ByteArray) (w : World) (hs : s.size ≤ 70368744177664) :
    Calls Try.prog 16 #[.string s] w (PlainPost s.data.toList w) := by
  have hl : Hid (s.data.toList.length = s.size) := bytes_len s
  obtain ⟨i0, hi0, hz0, hz1, hz2⟩ := info_parts Shelf.extra167.infoByte
  have HI := Lib.hid hi0
  have HZ := Lib.hid hz0
  have HZ1 := Lib.hid hz1
  have HZ2 := Lib.hid hz2
  clear hi0 hz0 hz1 hz2
  go_enter Try.func16, Try.ntmps16
  go_wp2
  go_loopw [4, 5] (fun v i wr => ∃ (j : Nat) (acc : List UInt8), j ≤ s.size ∧ acc.length ≤ j ∧ i = .int .i64 j ∧ wr.ownsRow w.heap.size 5 1 v acc.length (Lib.byteCells acc) ∧ Below w.heap.size w wr ∧ Hid (plainL s.data.toList = (plainL (s.data.toList.drop j)).map (acc ++ ·))) (fun _ i _ => s.size - (intOf i).toNat)
  case atStart => exact ⟨0, [], Nat.zero_le _, Nat.le_refl _, rfl, World.ownsRow_nil _ _ _ _, Below.refl _ _, by simp [Hid]⟩
  case round =>
    obtain ⟨j, acc, h1, h2, rfl, hI, hb, he⟩ := hrel
    have hsz := hb.size
    by_cases hlt : j < s.size
    · go_wp2_with (at_builtin; refine Base.wpList_append_one rfl (.tmp 43) (.tmp 47) _ rfl w.heap.size _ i0 _ 1 Try.underlying29 HI.out HZ.out HZ1.out HZ2.out rfl _ _ _ rfl hI _ rfl rfl (by unfold maxLen; omega) (by omega) hsz ?_; intro v1 w1 o1 b1)
      · go_ret2
        have hq := plain_none (at_is (n := 42) hlt ‹_›) (.inl rfl)
        exact ⟨[], false, rfl, by rw [he.out, hq]; rfl, by rw [he.out, hq]; rfl, hb⟩
      · go_ret2
        have hq := plain_none (at_is (n := 63) hlt ‹_›) (.inr (.inl rfl))
        exact ⟨[], false, rfl, by rw [he.out, hq]; rfl, by rw [he.out, hq]; rfl, hb⟩
      · go_ret2
        have h91 : (s[j].toNat : Int) = 91 := by
          rcases (by assumption : ((_ ∨ _) ∨ ((s[j].toNat : Int) == 91) = true)) with (h | h) | h
          · exact absurd (is_of h) ‹_›
          · exact absurd (is_of h) ‹_›
          · exact is_of h
        have hq := plain_none (at_is (n := 91) hlt h91) (.inr (.inr rfl))
        exact ⟨[], false, rfl, by rw [he.out, hq]; rfl, by rw [he.out, hq]; rfl, hb⟩
      · have h91 : ¬ (s[j].toNat : Int) = 91 := isnt_of (by assumption : (_ ∧ _) ∧ ((s[j].toNat : Int) == 91) = false).2
        have hq := plain_esc (at_is (n := 92) hlt ‹_›) (bytes_at s (j + 1) (by omega))
        exact ⟨⟨j + 2, acc ++ [s[j + 1]], by omega, by simp; omega, by go_num, by simpa [Lib.byteCells] using o1, hb.trans b1, he.out.trans (by rw [hq, map_acc])⟩, by simp [intOf]; omega⟩
      · have h91 : ¬ (s[j].toNat : Int) = 91 := isnt_of (by assumption : (_ ∧ _) ∧ ((s[j].toNat : Int) == 91) = false).2
        have hq := plain_one (bytes_at s j hlt) (u8_isnt (n := 42) (by omega) ‹_›) (u8_isnt (n := 63) (by omega) ‹_›) (u8_isnt (n := 91) (by omega) h91) (fun _ => by rw [hl.out]; omega)
        exact ⟨⟨j + 1, acc ++ [s[j]], by omega, by simp; omega, by go_num, by simpa [Lib.byteCells, ‹(s[j].toNat : Int) = 92›] using o1, hb.trans b1, he.out.trans (by rw [hq, map_acc])⟩, by simp [intOf]; omega⟩
      · have h91 : ¬ (s[j].toNat : Int) = 91 := isnt_of (by assumption : (_ ∧ _) ∧ ((s[j].toNat : Int) == 91) = false).2
        have hq := plain_one (bytes_at s j hlt) (u8_isnt (n := 42) (by omega) ‹_›) (u8_isnt (n := 63) (by omega) ‹_›) (u8_isnt (n := 91) (by omega) h91) (fun e => absurd e (u8_isnt (n := 92) (by omega) ‹_›))
        exact ⟨⟨j + 1, acc ++ [s[j]], by omega, by simp; omega, by go_num, by simpa [Lib.byteCells] using o1, hb.trans b1, he.out.trans (by rw [hq, map_acc])⟩, by simp [intOf]; omega⟩
    · have hcv := Base.convert_own (P := Try.prog) (dst := 9) Try.underlying29 Try.underlying5 Try.underlying9 hI
      go_wp2_with fail
      go_ret2
      have hq := plain_end (l := s.data.toList) (k := j) (by rw [hl.out]; omega)
      exact ⟨acc, true, rfl, by rw [he.out, hq]; simp, by rw [he.out, hq]; simp, hb⟩
end Go.Proofs.Ytnmjednmhmfbpaa.GlobW5
