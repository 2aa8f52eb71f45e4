/-
  Numbers out of bytes. Conditions: as stated.
-/
import Derived.Test.YthglmpkcfigelaaVaA
import Derived.IntWalk
set_option maxRecDepth 100000
set_option linter.unusedSimpArgs false
set_option linter.unusedVariables false
namespace Go.Proofs.Ythglmpkcfigelaa.VaP
open Go.RowKit Go.Proofs.Ythglmpkcfigelaa.Mem Go.Proofs.Ythglmpkcfigelaa.VaA

/-- The number whose bytes they are, the lowest first. -/
def unle : List UInt8 → Nat
  | [] => 0
  | b :: r => b.toNat + 256 * unle r
theorem unle_lt : ∀ l : List UInt8, unle l < 256 ^ l.length
  | [] => by simp [unle]
  | b :: r => by
    have h := unle_lt r
    have hb := b.toNat_lt
    rw [List.length_cons, Nat.pow_succ]
    simp only [unle]
    omega
theorem drop_get {l : List UInt8} {i : Nat} {b : UInt8} (h : l[i]? = some b) : unle (l.drop i) = b.toNat + 256 * unle (l.drop (i + 1)) := by
  obtain ⟨hi, e⟩ := List.getElem?_eq_some_iff.1 h
  rw [List.drop_eq_getElem_cons hi, e]; rfl

set_option maxHeartbeats 1000000 in
theorem unfixR_calls (s : ByteArray) (w : World) (h1 : 1 ≤ s.size) (h8 : s.size ≤ 8) :
    Calls Try.prog 51 #[.string s] w fun e w' => e = .returned (.tuple #[.int .u64 (unle s.data.toList), .int .i64 0]) ∧ w' = w := by
  go_enter Try.func51, Try.ntmps51
  go_wp2_with fail
  go_loopw [4, 5] (fun m i wr => ∃ k : Nat, k ≤ s.size ∧ i = .int .i64 ((k : Int) - 1) ∧ m = .int .u64 (unle (s.data.toList.drop k)) ∧ wr = w) (fun _ i _ => (intOf i + 1).toNat)
  case atStart => exact ⟨s.size, Nat.le_refl _, rfl, by rw [List.drop_eq_nil_of_le (by simp)]; rfl, rfl⟩
  case round =>
    obtain ⟨k, hk, rfl, rfl, rfl⟩ := hrel
    rcases Nat.eq_zero_or_pos k with h0 | hpos
    · subst h0
      go_wp2_with fail
      go_ret2
      exact ⟨rfl, rfl⟩
    · obtain ⟨j, rfl⟩ : ∃ j, k = j + 1 := ⟨k - 1, by omega⟩
      have hj : j < s.size := by omega
      have hb : s.data.toList[j]? = some s[j] := by rw [List.getElem?_eq_getElem (by simpa using hj)]; rfl
      have hd := drop_get hb
      have hu := unle_lt (s.data.toList.drop (j + 1))
      have hp : 256 ^ (s.data.toList.drop (j + 1)).length ≤ 256 ^ 7 := Nat.pow_le_pow_right (by decide) (by simp; omega)
      have h7 : (256 : Nat) ^ 7 = 72057594037927936 := rfl
      have hbt := s[j].toNat_lt
      have HD := Lib.hid (And.intro hd (And.intro hu (And.intro hp (And.intro h7 hbt))))
      clear hd hu hp h7 hbt hb
      go_wp2_with fail
      refine ⟨⟨j, by omega, rfl, ?_, by first | rfl | trivial⟩, by simp [intOf] <;> omega⟩
      obtain ⟨hd, hu, hp, h7, hbt⟩ := HD.out
      rw [hd]
      congr 1
      rw [Go.IntWalk.u64_in (256 * _) (by omega), Go.IntWalk.u64_in ((s[j].toNat : Nat) : Int) (by omega), Go.IntWalk.u64_in _ (by omega)]
      omega
theorem unle_snoc (l : List UInt8) (b : UInt8) : unle (l ++ [b]) = unle l + b.toNat * 256 ^ l.length := by
  induction l with
  | nil => simp [unle]
  | cons x r ih =>
    rw [List.cons_append, unle, ih, unle, List.length_cons, Nat.pow_succ]
    rw [Nat.mul_add, Nat.add_assoc]
    congr 2
    rw [Nat.mul_comm (256 ^ r.length) 256, ← Nat.mul_assoc, ← Nat.mul_assoc, Nat.mul_comm 256 b.toNat]

theorem bits_or64 (a b : Nat) (ha : a < 2 ^ 64) (hb : b < 2 ^ 64) : bits .or .u64 (a : Int) (b : Int) = ((a ||| b : Nat) : Int) := by
  have hab := Nat.or_lt_two_pow ha hb
  have e : ((BitVec.ofInt IntKind.u64.bits (a : Int)) ||| (BitVec.ofInt IntKind.u64.bits (b : Int))).toNat = a ||| b := by
    show ((BitVec.ofInt 64 (a : Int)) ||| (BitVec.ofInt 64 (b : Int))).toNat = a ||| b
    rw [BitVec.toNat_or, BitVec.ofInt_natCast, BitVec.ofInt_natCast, BitVec.toNat_ofNat, BitVec.toNat_ofNat, Nat.mod_eq_of_lt ha, Nat.mod_eq_of_lt hb]
  have h64 : (2 : Nat) ^ 64 = 18446744073709551616 := rfl
  unfold bits
  simp only [e]
  exact Go.IntWalk.u64_in _ (by omega)
theorem or_add {m k : Nat} (h : m < 2 ^ k) (q : Nat) : m ||| (q * 2 ^ k) = m + q * 2 ^ k := by
  have := Nat.two_pow_add_eq_or_of_lt h q
  rw [Nat.or_comm, Nat.mul_comm q, ← this, Nat.add_comm]
set_option maxHeartbeats 1000000 in
theorem unfix_calls (s : ByteArray) (w : World) (h1 : 1 ≤ s.size) (h8 : s.size ≤ 8) :
    Calls Try.prog 50 #[.string s] w fun e w' => e = .returned (.tuple #[.int .u64 (unle s.data.toList), .int .i64 0]) ∧ w' = w := by
  go_enter Try.func50, Try.ntmps50
  go_wp2_with fail
  go_loopw [4, 16] (fun m i wr => ∃ k : Nat, k ≤ s.size ∧ i = .int .i64 k ∧ m = .int .u64 (unle (s.data.toList.take k)) ∧ wr = w) (fun _ i _ => s.size - (intOf i).toNat)
  case atStart => exact ⟨0, Nat.zero_le _, rfl, rfl, rfl⟩
  case round =>
    obtain ⟨k, hk, rfl, rfl, rfl⟩ := hrel
    by_cases hlt : k < s.size
    · have hb : s.data.toList[k]? = some s[k] := by rw [List.getElem?_eq_getElem (by simpa using hlt)]; rfl
      have Hb := Lib.hid hb
      clear hb
      go_wp2_with fail
      refine ⟨⟨k + 1, by omega, by go_num, ?_, by first | rfl | trivial⟩, by simp [intOf]; omega⟩
      obtain ⟨hk', e'⟩ := List.getElem?_eq_some_iff.1 Hb.out
      have hlen : (s.data.toList.take k).length = k := by simp; omega
      have hu := unle_lt (s.data.toList.take k)
      rw [hlen] at hu
      have hpw : (256 : Nat) ^ k = 2 ^ (8 * k) := by rw [Nat.pow_mul]
      rw [hpw] at hu
      have hbt := s[k].toNat_lt
      have hq : s[k].toNat * 2 ^ (8 * k) + 2 ^ (8 * k) ≤ 2 ^ 64 := by
        have h1 : s[k].toNat * 2 ^ (8 * k) + 2 ^ (8 * k) = (s[k].toNat + 1) * 2 ^ (8 * k) := by rw [Nat.add_mul, Nat.one_mul]
        have h2 : (s[k].toNat + 1) * 2 ^ (8 * k) ≤ 2 ^ 8 * 2 ^ (8 * k) := Nat.mul_le_mul_right _ (by omega)
        have h3 : 2 ^ 8 * 2 ^ (8 * k) = 2 ^ (8 + 8 * k) := (Nat.pow_add _ _ _).symm
        have h4 : 2 ^ (8 + 8 * k) ≤ 2 ^ 64 := Nat.pow_le_pow_right (by decide) (by omega)
        omega
      have h64 : (2 : Nat) ^ 64 = 18446744073709551616 := rfl
      have hpos : 0 < 2 ^ (8 * k) := Nat.pow_pos (by decide)
      have hx : ((s[k].toNat : Int) * 2 ^ (8 * k)) = ((s[k].toNat * 2 ^ (8 * k) : Nat) : Int) := by simp
      rw [Go.IntWalk.u64_in ((s[k].toNat : Nat) : Int) (by omega), hx, Go.IntWalk.u64_in _ (by omega), bits_or64 _ _ (by omega) (by omega), or_add hu]
      rw [List.take_succ_eq_append_getElem hk', e', unle_snoc, hlen, hpw]
    · obtain rfl : k = s.size := by omega
      rw [List.take_of_length_le (by simp)]
      go_wp2_with fail
      go_ret2
      exact ⟨rfl, rfl⟩
end Go.Proofs.Ythglmpkcfigelaa.VaP
