/-
  The document's Parse: the walk. Conditions: fewer than 2^48 bytes.
-/
import Derived.Test.YtakhcfemakapbaaDoorNumC
set_option maxRecDepth 100000
set_option linter.unusedSimpArgs false
set_option linter.unusedVariables false
namespace Go.Proofs.YtakhcfemakapbaaDoor.NumD
open Go.RowKit Go.Lib Go.Proofs.YtakhcfemakapbaaDoor.Mem Go.Proofs.YtakhcfemakapbaaDoor.NumA Go.Proofs.YtakhcfemakapbaaDoor.NumB Go.Proofs.YtakhcfemakapbaaDoor.NumC

theorem bytes_len (s : ByteArray) : s.data.toList.length = s.size := by simp
theorem byte_at {s : ByteArray} {k : Nat} (h : k < s.size) : s.data.toList[k]? = some s[k] := by
  rw [List.getElem?_eq_getElem (by rw [bytes_len]; exact h)]; rfl
theorem cons_at {s : ByteArray} (h : 0 < s.size) : ∃ r, s.data.toList = s[0] :: r := by
  have h1 := byte_at h
  rcases hl : s.data.toList with _ | ⟨b, r⟩
  · rw [hl] at h1; cases h1
  · rw [hl] at h1
    injection h1 with h1
    exact ⟨r, by rw [h1]⟩
theorem val_pos {L : List UInt8} {b : UInt8} {r : List UInt8} (hL : L = b :: r) (hb : dig b = true) (h : b.toNat ≠ 48) : 0 < valF 0 L := by
  subst hL
  simp only [dig, decide_eq_true_eq] at hb
  have := valF_ge r (0 * 10 + (b.toNat - 48))
  have hp : 1 ≤ 10 ^ r.length := Nat.pos_of_ne_zero (by simp)
  have h2 : 1 * 1 ≤ (0 * 10 + (b.toNat - 48)) * 10 ^ r.length := Nat.mul_le_mul (by omega) hp
  show 0 < valF (0 * 10 + (b.toNat - 48)) r
  omega
theorem val19 {l : List UInt8} {k : Nat} (hd : ∀ b ∈ l.take k, dig b = true) (hk : k ≤ 18) : valF 0 (l.take k) < 1000000000000000000 := by
  have h1 := valF_lt (l.take k) 0 hd
  have h2 : 10 ^ (l.take k).length ≤ 10 ^ 18 := Nat.pow_le_pow_right (by decide) (by rw [List.length_take]; omega)
  have h3 : (10 : Nat) ^ 18 = 1000000000000000000 := rfl
  omega
theorem val20 {l : List UInt8} {k : Nat} (hd : ∀ b ∈ l.take k, dig b = true) (hk : k ≤ 19) : valF 0 (l.take k) < 10000000000000000000 := by
  have h1 := valF_lt (l.take k) 0 hd
  have h2 : 10 ^ (l.take k).length ≤ 10 ^ 19 := Nat.pow_le_pow_right (by decide) (by rw [List.length_take]; omega)
  have h3 : (10 : Nat) ^ 19 = 10000000000000000000 := rfl
  omega
end Go.Proofs.YtakhcfemakapbaaDoor.NumD
