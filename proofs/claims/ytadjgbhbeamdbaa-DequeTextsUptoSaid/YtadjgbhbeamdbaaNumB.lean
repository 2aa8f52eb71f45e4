/-
  Add of both; the document's Print and Parse. Conditions: as stated.
-/
import Derived.Test.YtadjgbhbeamdbaaRows
import Derived.Test.YtadjgbhbeamdbaaMem
import Derived.Test.YtadjgbhbeamdbaaNumA
import Derived.Test.YtadjgbhbeamdbaaBase
import Derived.Lib.UnsafeStr
import Derived.Lib.BufferRead
import Derived.Laws.OwnMore
import Derived.Lib.Hide
set_option maxRecDepth 100000
set_option linter.unusedSimpArgs false
set_option linter.unusedVariables false
namespace Go.Proofs.Ytadjgbhbeamdbaa.NumB
open Go.RowKit Go.Lib Go.Proofs.Ytadjgbhbeamdbaa.Mem Go.Proofs.Ytadjgbhbeamdbaa.NumA

def inR (n : Int) : Prop := -9223372036854775808 ≤ n ∧ n ≤ 9223372036854775807
instance (n : Int) : Decidable (inR n) := by unfold inR; infer_instance
def addD (a b : Int) : Value := if inR (a + b) then .tuple #[.int .i64 (a + b), .int .i64 0] else .tuple #[.int .i64 0, .int .i64 11]
def txt (n : Int) : ByteArray := ⟨(itoa n).toArray⟩
theorem dec_len20 {u : Nat} (h : u < 18446744073709551616) : (decDigits u).length ≤ 20 := by
  rw [decDigits_length]
  by_cases h0 : 1 ≤ u
  · have := numDigits_eq u h0 h
    have h2 := this.2
    split at this <;> omega
  · rw [show u = 0 by omega, nDigits_small (by decide)]; decide
/-- What has been written of m's digits while u is left. -/
def Left (m u : Nat) (t : List UInt8) : Prop := (u = 0 → t = decDigits m) ∧ (0 < u → decDigits u ++ t = decDigits m)
theorem left_start (m : Nat) (h : 0 < m) : Left m m [] := ⟨fun e => by omega, fun _ => by rw [List.append_nil]⟩
theorem left_next {m u : Nat} {t : List UInt8} (h : Left m u t) (hu : 0 < u) : Left m (u / 10) (UInt8.ofNat (48 + u % 10) :: t) := by
  have h1 := h.2 hu
  refine ⟨fun e => ?_, fun e => ?_⟩
  · have hs : u < 10 := by omega
    rw [dec_small hs] at h1
    rw [← h1, show u % 10 = u by omega]; rfl
  · rw [dec_big (by omega)] at h1
    rw [← h1, List.append_assoc]; rfl
theorem left_len {m u : Nat} {t : List UInt8} (h : Left m u t) (hm : m < 18446744073709551616) : t.length ≤ 20 := by
  have hl := dec_len20 hm
  rcases Nat.eq_zero_or_pos u with h0 | h0
  · rw [h.1 h0]; exact hl
  · rw [← h.2 h0, List.length_append] at hl; omega
theorem wrap_u64' (n : Int) : IntKind.u64.wrap n = n % 18446744073709551616 := by simp [IntKind.wrap, IntKind.bits, IntKind.signed]
theorem app_one (y : UInt8) (t : List UInt8) : Value.string ((⟨#[y]⟩ : ByteArray) ++ ⟨t.toArray⟩) = Value.string ⟨(y :: t).toArray⟩ := by
  have h : (⟨#[y]⟩ : ByteArray) ++ ⟨t.toArray⟩ = ⟨(y :: t).toArray⟩ := by
    apply ByteArray.ext
    simp [ByteArray.data_append]
  rw [h]
theorem one_str (w : World) (x : Int) (y : UInt8) (h : x = y.toNat) : (convert 66 9 (.slice (some ⟨w.heap.size, 0, none⟩) 1 1)).run Try.prog (w.alloc (.cells #[.int .u8 x] 5)) = .ok (.string ⟨#[y]⟩) (w.alloc (.cells #[.int .u8 x] 5)) := by
  subst h
  have ho := World.ownsRow_lit (base := w.heap.size) (e := 5) (size := 1) w #[.int .u8 y.toNat] 1 (Nat.le_refl _) (by unfold maxLen; omega) rfl
  exact Base.convert_own (P := Try.prog) (l := [y]) Try.underlying66 Try.underlying5 Try.underlying9 ho
set_option maxHeartbeats 2000000 in
theorem printR_calls (n : Int) (w : World) (hn : inR n) : Calls Try.prog 18 #[.int .i64 n] w fun e w' => e = .returned (.string (txt n)) ∧ Below w.heap.size w w' := by
  obtain ⟨n0, n1⟩ := hn
  by_cases hz : n = 0
  · subst hz
    go_enter Try.func18, Try.ntmps18
    go_wp2_with fail
    go_ret
    exact ⟨by unfold txt itoa; rw [if_neg (by decide), show (0 : Int).toNat = 0 from rfl, dec_small (by decide)]; rfl, Below.refl _ _⟩
  · obtain ⟨m, hm⟩ : ∃ m, m = n.natAbs := ⟨_, rfl⟩
    have hm0 : 0 < m := by omega
    have hml : m ≤ 9223372036854775808 := by omega
    go_enter Try.func18, Try.ntmps18
    rcases Int.lt_or_le n 0 with hneg | hpos
    · obtain rfl : n = -(m : Int) := by omega
      clear hm
      go_wp2_with fail
      go_loopw [3, 4] (fun u s wr => ∃ (k : Nat) (t : List UInt8), k ≤ m ∧ u = .int .u64 k ∧ s = .string ⟨t.toArray⟩ ∧ Left m k t ∧ Below w.heap.size w wr) (fun u _ _ => (intOf u).toNat)
      case atStart => exact ⟨m, [], Nat.le_refl _, by first | rfl | (congr 1; rw [wrap_u64', wrap_u64']; omega), rfl, left_start m hm0, Below.refl _ _⟩
      case round =>
        obtain ⟨k, t, hk, rfl, rfl, hl, hb⟩ := hrel
        have htl := left_len hl (by omega)
        have hts : (⟨t.toArray⟩ : ByteArray).size ≤ 20 := by show t.toArray.size ≤ 20; simpa using htl
        have Hl := Lib.hid hl
        have Hts := Lib.hid hts
        by_cases h0 : 0 < k
        · obtain ⟨y, hy⟩ : ∃ y, y = UInt8.ofNat (48 + k % 10) := ⟨_, rfl⟩
          have hcv := one_str wr (48 + (k : Int) % 10) y (by rw [hy, of48 (Nat.mod_lt k (by decide : 0 < 10))]; omega)
          have Hy := Lib.hid hy
          clear hl hy
          go_wp2_with fail
          exact ⟨⟨k / 10, y :: t, by omega, by congr 1, app_one y t, by rw [Hy.out]; exact left_next Hl.out h0, hb.alloc hb.size _⟩, by simp [intOf]; omega⟩
        · obtain rfl : k = 0 := by omega
          have he := hl.1 rfl
          subst he
          clear hl Hl
          go_wp2_with fail
          go_ret
          exact ⟨by unfold txt itoa; rw [if_pos (by omega), show (-(m : Int)).natAbs = m by omega]; exact congrArg Ending.returned (app_one _ _), hb⟩
    · obtain rfl : n = (m : Int) := by omega
      clear hm
      go_wp2_with fail
      go_loopw [3, 4] (fun u s wr => ∃ (k : Nat) (t : List UInt8), k ≤ m ∧ u = .int .u64 k ∧ s = .string ⟨t.toArray⟩ ∧ Left m k t ∧ Below w.heap.size w wr) (fun u _ _ => (intOf u).toNat)
      case atStart => exact ⟨m, [], Nat.le_refl _, by first | rfl | (congr 1; rw [wrap_u64', wrap_u64']; omega), rfl, left_start m hm0, Below.refl _ _⟩
      case round =>
        obtain ⟨k, t, hk, rfl, rfl, hl, hb⟩ := hrel
        have htl := left_len hl (by omega)
        have hts : (⟨t.toArray⟩ : ByteArray).size ≤ 20 := by show t.toArray.size ≤ 20; simpa using htl
        have Hl := Lib.hid hl
        have Hts := Lib.hid hts
        by_cases h0 : 0 < k
        · obtain ⟨y, hy⟩ : ∃ y, y = UInt8.ofNat (48 + k % 10) := ⟨_, rfl⟩
          have hcv := one_str wr (48 + (k : Int) % 10) y (by rw [hy, of48 (Nat.mod_lt k (by decide : 0 < 10))]; omega)
          have Hy := Lib.hid hy
          clear hl hy
          go_wp2_with fail
          exact ⟨⟨k / 10, y :: t, by omega, by congr 1, app_one y t, by rw [Hy.out]; exact left_next Hl.out h0, hb.alloc hb.size _⟩, by simp [intOf]; omega⟩
        · obtain rfl : k = 0 := by omega
          have he := hl.1 rfl
          subst he
          clear hl Hl
          go_wp2_with fail
          go_ret
          exact ⟨by unfold txt itoa; rw [if_neg (by omega), Int.toNat_natCast]; rfl, hb⟩
end Go.Proofs.Ytadjgbhbeamdbaa.NumB
