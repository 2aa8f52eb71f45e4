/-
  What the reference's reader of a class hands back, whatever the pattern, the place and the byte. Conditions: the pattern has at most 2^48 bytes.
-/
import Derived.Test.YtnmjednmhmfbpaaRows
import Derived.Test.YtnmjednmhmfbpaaGlobA
import Derived.WalkKit
import Derived.BigQuiet
import Derived.IntWalk
import Derived.Lib.Hide
set_option maxRecDepth 100000
/-! The walk of a class's reader. -/
namespace Go.Proofs.Ytnmjednmhmfbpaa.GlobW2
open Go.RowKit Go.Proofs.Ytnmjednmhmfbpaa.GlobA

/-- What a class's reader hands back: the place behind it, and whether it means the byte. -/
def RClsPost (l : List UInt8) (c : UInt8) (t : Bool) (k : Nat) (w : World) (e : Ending) (w' : World) : Prop :=
  ∃ (j : Nat) (nm : Bool), k ≤ j ∧ j ≤ l.length ∧ cls c (l.drop k) false = (l.drop j, nm) ∧ ∃ r, e = .returned (.tuple #[.bool r, .int .i64 j]) ∧ r = (nm != t) ∧ ∃ nd, w' = w.drewN nd

set_option maxHeartbeats 1000000 in
theorem rclass_any (s : ByteArray) (k k1 : Nat) (t : Bool) (c : UInt8) (w : World) (hk : k ≤ s.size) (hs : s.size ≤ 281474976710656)
    (hn : (¬ k < s.size ∧ k1 = k ∧ t = false) ∨ (∃ h : k < s.size, ((s[k].toNat : Int) == 94) = false ∧ k1 = k ∧ t = false) ∨ (∃ h : k < s.size, ((s[k].toNat : Int) == 94) = true ∧ k1 = k + 1 ∧ t = true)) :
    Calls Try.prog 21 #[.string s, .int .i64 k, .int .u8 c.toNat] w (RClsPost s.data.toList c t k1 w) := by
  have hl : Hid (s.data.toList.length = s.size) := bytes_len s
  have hk1 : k1 ≤ s.size := by rcases hn with ⟨a, rfl, rfl⟩ | ⟨h0, a, rfl, rfl⟩ | ⟨h0, a, rfl, rfl⟩ <;> omega
  obtain ⟨R, hR⟩ : ∃ R, R = cls c (s.data.toList.drop k1) false := ⟨_, rfl⟩
  obtain ⟨lo, hlo⟩ : ∃ lo, lo = k1 := ⟨_, rfl⟩
  have hfin : ∀ e w', (∃ (j : Nat) (nm : Bool), lo ≤ j ∧ j ≤ s.data.toList.length ∧ R = (s.data.toList.drop j, nm) ∧ ∃ r, e = .returned (.tuple #[.bool r, .int .i64 j]) ∧ r = (nm != t) ∧ ∃ nd, w' = w.drewN nd) → RClsPost s.data.toList c t k1 w e w' := by
    rw [hR, hlo]; exact fun _ _ h => h
  have Hfin := Lib.hid hfin
  have HR := Lib.hid hR
  have Hlo := Lib.hid hlo
  clear hfin hR hlo
  rcases hn with ⟨a, rfl, rfl⟩ | ⟨h0, a, rfl, rfl⟩ | ⟨h0, a, rfl, rfl⟩
  all_goals
    go_enter Try.func21, Try.ntmps21
    go_wp2
    clear a
    go_loopw [1, 9] (fun i n wr => (∃ nd, wr = w.drewN nd) ∧ ∃ (j : Nat) (nm : Bool), lo ≤ j ∧ j ≤ s.size ∧ i = .int .i64 j ∧ n = .bool nm ∧ Hid (R = cls c (s.data.toList.drop j) nm)) (fun i _ _ => s.size - (intOf i).toNat)
    case atStart => first | exact ⟨⟨0, rfl⟩, _, false, Nat.le_of_eq Hlo.out, hk, rfl, rfl, HR.out⟩ | exact ⟨⟨0, rfl⟩, _, false, Nat.le_of_eq Hlo.out, h0, by go_num, rfl, HR.out⟩
    case round =>
      obtain ⟨⟨nd, rfl⟩, j, nm, h1, h2, rfl, rfl, he⟩ := hrel
      by_cases hlt : j < s.size
      · go_wp2
        case roundEnd => exact ⟨⟨⟨nd, rfl⟩, j + 2, _, by omega, by omega, by go_num, rfl, he.out.trans (by rw [cls_esc (at_is (n := 92) hlt ‹_›) (bytes_at _ _ (by omega)), or_t ‹_›])⟩, by simp [intOf]; omega⟩
        case roundEnd => exact ⟨⟨⟨nd, rfl⟩, j + 2, _, by omega, by omega, by go_num, rfl, he.out.trans (by rw [cls_esc (at_is (n := 92) hlt ‹_›) (bytes_at _ _ (by omega)), or_f ‹_›, u8_beq])⟩, by simp [intOf]; omega⟩
        case roundEnd => exact ⟨⟨⟨nd, rfl⟩, j + 1, _, by omega, by omega, by go_num, rfl, he.out.trans (by rw [cls_one (bytes_at s j hlt) (fun _ => by rw [hl.out]; omega) (u8_isnt (n := 93) (by omega) (by omega)) (fun _ => by rw [hl.out]; omega), or_t ‹_›])⟩, by simp [intOf]; omega⟩
        case roundEnd => exact ⟨⟨⟨nd, rfl⟩, j + 1, _, by omega, by omega, by go_num, rfl, he.out.trans (by rw [cls_one (bytes_at s j hlt) (fun _ => by rw [hl.out]; omega) (u8_isnt (n := 93) (by omega) (by omega)) (fun _ => by rw [hl.out]; omega), or_f ‹_›, ← u8_beq, (by assumption : (s[j].toNat : Int) = 92)])⟩, by simp [intOf]; omega⟩
        · go_ret2
          exact Hfin.out _ _ ⟨j + 1, nm, by omega, by rw [hl.out]; omega, he.out.trans (cls_shut (at_is (n := 93) hlt (is_of ‹_›))), _, rfl, by simp, nd, rfl⟩
        · have z1 : ((j : Int) + 2) < (s.size : Int) := by omega
          have z2 : (0 : Int) ≤ (j : Int) + 2 := by omega
          have z3 : ((j : Int) + 2).toNat = j + 2 := by omega
          have z4 : IntKind.i64.wrap ((j : Int) + 2) = (j : Int) + 2 := IntWalk.i64_in _ (by omega)
          go_quiet (fail)
          clear z4
          go_wp2
          all_goals first | exact ⟨⟨⟨nd + nq, rfl⟩, j + 3, _, by omega, by omega, by go_num, rfl, he.out.trans (by rw [cls_range (bytes_at s j hlt) (at_is (n := 45) (by omega) (is_of ‹_›)) (bytes_at s (j + 2) (by omega)) (u8_isnt (n := 92) (by omega) ‹_›) (u8_isnt (n := 93) (by omega) (isnt_of (x := (s[j].toNat : Int)) ‹_›)), or_t ‹_›])⟩, by simp [intOf]; omega⟩ | exact ⟨⟨⟨nd + nq, rfl⟩, j + 3, _, by omega, by omega, by go_num, rfl, he.out.trans (by rw [cls_range (bytes_at s j hlt) (at_is (n := 45) (by omega) (is_of ‹_›)) (bytes_at s (j + 2) (by omega)) (u8_isnt (n := 92) (by omega) ‹_›) (u8_isnt (n := 93) (by omega) (isnt_of (x := (s[j].toNat : Int)) ‹_›)), or_f ‹_›, rng]; refine congrArg (cls c _) ?_; rw [Bool.eq_iff_iff]; simp; first | omega | (split <;> omega))⟩, by simp [intOf]; omega⟩
        case roundEnd => exact ⟨⟨⟨nd, rfl⟩, j + 1, _, by omega, by omega, by go_num, rfl, he.out.trans (by rw [cls_one (bytes_at s j hlt) (fun e => absurd e (u8_isnt (n := 92) (by omega) ‹_›)) (u8_isnt (n := 93) (by omega) (isnt_of (x := (s[j].toNat : Int)) ‹_›)) (fun e => absurd e (at_isnt (n := 45) (by omega) (by omega) (isnt_of ‹_›))), or_t ‹_›])⟩, by simp [intOf]; omega⟩
        case roundEnd => exact ⟨⟨⟨nd, rfl⟩, j + 1, _, by omega, by omega, by go_num, rfl, he.out.trans (by rw [cls_one (bytes_at s j hlt) (fun e => absurd e (u8_isnt (n := 92) (by omega) ‹_›)) (u8_isnt (n := 93) (by omega) (isnt_of (x := (s[j].toNat : Int)) ‹_›)) (fun e => absurd e (at_isnt (n := 45) (by omega) (by omega) (isnt_of ‹_›))), or_f ‹_›, u8_beq])⟩, by simp [intOf]; omega⟩
        case roundEnd => exact ⟨⟨⟨nd, rfl⟩, j + 1, _, by omega, by omega, by go_num, rfl, he.out.trans (by rw [cls_one (bytes_at s j hlt) (fun e => absurd e (u8_isnt (n := 92) (by omega) ‹_›)) (u8_isnt (n := 93) (by omega) (isnt_of (x := (s[j].toNat : Int)) ‹_›)) (fun _ => by rw [hl.out]; omega), or_t ‹_›])⟩, by simp [intOf]; omega⟩
        case roundEnd => exact ⟨⟨⟨nd, rfl⟩, j + 1, _, by omega, by omega, by go_num, rfl, he.out.trans (by rw [cls_one (bytes_at s j hlt) (fun e => absurd e (u8_isnt (n := 92) (by omega) ‹_›)) (u8_isnt (n := 93) (by omega) (isnt_of (x := (s[j].toNat : Int)) ‹_›)) (fun _ => by rw [hl.out]; omega), or_f ‹_›, u8_beq])⟩, by simp [intOf]; omega⟩
      · go_wp2
        go_ret2
        exact Hfin.out _ _ ⟨j, nm, h1, by rw [hl.out]; omega, he.out.trans (cls_end (by rw [hl.out]; omega)), _, rfl, by simp, nd, rfl⟩
end Go.Proofs.Ytnmjednmhmfbpaa.GlobW2
