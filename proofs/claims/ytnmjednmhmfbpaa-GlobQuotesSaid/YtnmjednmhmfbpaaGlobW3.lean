/-
  What the reader of a piece hands back, whatever the pattern, the place and the byte. Conditions: the place lies in the pattern, which has at most 2^48 bytes.
-/
import Derived.Test.YtnmjednmhmfbpaaGlobW1
set_option maxRecDepth 100000
/-! The walk of a piece's reader. -/
namespace Go.Proofs.Ytnmjednmhmfbpaa.GlobW3
open Go.RowKit Go.Proofs.Ytnmjednmhmfbpaa.GlobA Go.Proofs.Ytnmjednmhmfbpaa.GlobW1

def ClsTPost (l : List UInt8) (c : UInt8) (k : Nat) (w : World) (e : Ending) (w' : World) : Prop :=
  ∃ (j : Nat) (r : Bool), k ≤ j ∧ j ≤ l.length ∧ clsT c (l.drop k) = (l.drop j, r) ∧ e = .returned (.tuple #[.int .i64 j, .bool r]) ∧ ∃ nd, w' = w.drewN nd
def PiecePost (l : List UInt8) (c : UInt8) (k : Nat) (w : World) (e : Ending) (w' : World) : Prop :=
  ∃ (j : Nat) (r : Bool), k < j ∧ j ≤ l.length ∧ piece c (l.drop k) = (l.drop j, r) ∧ e = .returned (.tuple #[.int .i64 j, .bool r]) ∧ ∃ nd, w' = w.drewN nd

theorem class_calls (s : ByteArray) (k : Nat) (x : Int) (c : UInt8) (w : World) (hx : x = k) (hk : k ≤ s.size) (hs : s.size ≤ 281474976710656) :
    Calls Try.prog 26 #[.string s, .int .i64 x, .int .u8 c.toNat] w (ClsTPost s.data.toList c k w) := by
  subst hx
  by_cases h : k < s.size
  · by_cases h94 : ((s[k].toNat : Int) == 94) = true
    · refine (class_any s k (k + 1) true c w hk hs (.inr (.inr ⟨h, h94, rfl, rfl⟩))).mono ?_
      rintro e w' ⟨j, nm, h1, h2, h3, r, h4, h5, h6⟩
      exact ⟨j, r, by omega, h2, h5 ▸ clsT_turned (at_is (n := 94) h (is_of h94)) h3, h4, h6⟩
    · have h94' : ((s[k].toNat : Int) == 94) = false := by simpa using h94
      refine (class_any s k k false c w hk hs (.inr (.inl ⟨h, h94', rfl, rfl⟩))).mono ?_
      rintro e w' ⟨j, nm, h1, h2, h3, r, h4, h5, h6⟩
      exact ⟨j, r, by omega, h2, h5 ▸ clsT_plain (at_isnt (n := 94) (by omega) h (isnt_of h94')) h3, h4, h6⟩
  · refine (class_any s k k false c w hk hs (.inl ⟨h, rfl, rfl⟩)).mono ?_
    rintro e w' ⟨j, nm, h1, h2, h3, r, h4, h5, h6⟩
    exact ⟨j, r, by omega, h2, h5 ▸ clsT_plain (by rw [List.getElem?_eq_none (by rw [bytes_len]; omega)]; simp) h3, h4, h6⟩

set_option maxHeartbeats 1000000 in
theorem piece_calls (s : ByteArray) (k : Nat) (c : UInt8) (w : World) (hk : k < s.size) (hs : s.size ≤ 281474976710656) :
    Calls Try.prog 19 #[.string s, .int .i64 k, .int .u8 c.toNat] w (PiecePost s.data.toList c k w) := by
  have hl : Hid (s.data.toList.length = s.size) := bytes_len s
  go_enter Try.func19, Try.ntmps19
  go_wp2_with (go_at_call 26; refine (class_calls _ (k + 1) _ _ _ (by omega) (by omega) hs).mono ?_; rintro e w' ⟨j, r, h1, h2, h3, rfl, nd, rfl⟩)
  · go_ret2
    exact ⟨k + 1, true, by omega, by rw [hl.out]; omega, piece_any (at_is (n := 63) hk (is_of ‹_›)), by go_num, 0, rfl⟩
  · go_ret2
    exact ⟨j, r, by omega, h2, (piece_cls (at_is (n := 91) hk (is_of ‹_›))).trans h3, rfl, nd, rfl⟩
  · have z1 : ((k : Int) + 1) < (s.size : Int) := by omega
    have z2 : (0 : Int) ≤ (k : Int) + 1 := by omega
    have z3 : ((k : Int) + 1).toNat = k + 1 := by omega
    have z4 : IntKind.i64.wrap ((k : Int) + 1) = (k : Int) + 1 := IntWalk.i64_in _ (by omega)
    have z5 : IntKind.i64.wrap ((k : Int) + 2) = (k : Int) + 2 := IntWalk.i64_in _ (by omega)
    go_quiet (fail)
    clear z4 z5
    go_wp2
    go_ret2
    exact ⟨k + 2, _, by omega, by rw [hl.out]; omega, (piece_esc (b := s[k + 1]) (at_is (n := 92) hk (is_of ‹_›)) (bytes_at _ _ (by omega))).trans (by rw [← u8_beq]), by go_num, nq, rfl⟩
  all_goals
    have z4 : IntKind.i64.wrap ((k : Int) + 1) = (k : Int) + 1 := IntWalk.i64_in _ (by omega)
    go_quiet (fail)
    clear z4
    go_wp2
    go_ret2
    exact ⟨k + 1, _, by omega, by rw [hl.out]; omega, (piece_one (bytes_at s k hk) (u8_isnt (n := 63) (by omega) (isnt_of (x := (s[k].toNat : Int)) ‹_›)) (u8_isnt (n := 91) (by omega) (isnt_of (x := (s[k].toNat : Int)) ‹_›)) (by first | (intro _; rw [hl.out]; omega) | exact fun e => absurd e (u8_isnt (n := 92) (by omega) (isnt_of (x := (s[k].toNat : Int)) ‹_›)))).trans (by rw [← u8_beq]), by go_num, nq, rfl⟩
end Go.Proofs.Ytnmjednmhmfbpaa.GlobW3
