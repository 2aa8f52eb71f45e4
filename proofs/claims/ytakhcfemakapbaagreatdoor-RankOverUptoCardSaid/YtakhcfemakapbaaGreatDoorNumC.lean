/-
  The document's Parse. Conditions: as stated.
-/
import Derived.Test.YtakhcfemakapbaaGreatDoorNumB
set_option maxRecDepth 100000
set_option linter.unusedSimpArgs false
set_option linter.unusedVariables false
namespace Go.Proofs.YtakhcfemakapbaaGreatDoor.NumC
open Go.RowKit Go.Lib Go.Proofs.YtakhcfemakapbaaGreatDoor.Mem Go.Proofs.YtakhcfemakapbaaGreatDoor.NumA Go.Proofs.YtakhcfemakapbaaGreatDoor.NumB

def parseV (o : Option Int) : Value := match o with
  | some n => .tuple #[.int .i64 n, .int .i64 0]
  | none => .tuple #[.int .i64 0, .int .i64 10]
theorem valF_lt : ∀ (l : List UInt8) (a : Nat), (∀ b ∈ l, dig b = true) → valF a l < (a + 1) * 10 ^ l.length
  | [], a, _ => by show a < _; simp
  | b :: r, a, hd => by
    have hb := hd b (by simp)
    simp only [dig, decide_eq_true_eq] at hb
    have := valF_lt r (a * 10 + (b.toNat - 48)) (fun x hx => hd x (by simp [hx]))
    have h2 : (a * 10 + (b.toNat - 48) + 1) * 10 ^ r.length ≤ ((a + 1) * 10) * 10 ^ r.length := Nat.mul_le_mul_right _ (by omega)
    show valF (a * 10 + (b.toNat - 48)) r < (a + 1) * 10 ^ (r.length + 1)
    rw [Nat.pow_succ, Nat.mul_comm (10 ^ r.length) 10, ← Nat.mul_assoc]
    omega
theorem valF_ge : ∀ (l : List UInt8) (a : Nat), a * 10 ^ l.length ≤ valF a l
  | [], a => by show a * 1 ≤ a; omega
  | b :: r, a => by
    have := valF_ge r (a * 10 + (b.toNat - 48))
    have h2 : (a * 10) * 10 ^ r.length ≤ (a * 10 + (b.toNat - 48)) * 10 ^ r.length := Nat.mul_le_mul_right _ (by omega)
    show a * 10 ^ (r.length + 1) ≤ valF (a * 10 + (b.toNat - 48)) r
    rw [Nat.pow_succ, Nat.mul_comm (10 ^ r.length) 10, ← Nat.mul_assoc]
    omega
theorem can_iff (l : List UInt8) : canN l = true ↔ (∀ b ∈ l, dig b = true) ∧ l ≠ [] ∧ (l.length = 1 ∨ ∀ b r, l = b :: r → b.toNat ≠ 48) := by
  unfold canN
  rw [Bool.and_eq_true, List.all_eq_true]
  rcases l with _ | ⟨b, _ | ⟨c, r⟩⟩
  · simp
  · simp
  · simp
theorem can_long {l : List UInt8} (h : canN l = true) (hl : 20 ≤ l.length) : 9223372036854775808 < valF 0 l := by
  obtain ⟨h1, h2, h3⟩ := (can_iff l).1 h
  rcases l with _ | ⟨b, r⟩
  · exact absurd rfl h2
  · have hb := h1 b (by simp)
    simp only [dig, decide_eq_true_eq] at hb
    have h48 : b.toNat ≠ 48 := by
      rcases h3 with h3 | h3
      · omega
      · exact h3 b r rfl
    have := valF_ge r (0 * 10 + (b.toNat - 48))
    have hp : 10 ^ 19 ≤ 10 ^ r.length := Nat.pow_le_pow_right (by decide) (by simp at hl; omega)
    have h4 : 1 * 10 ^ 19 ≤ (0 * 10 + (b.toNat - 48)) * 10 ^ r.length := Nat.mul_le_mul (by omega) hp
    show _ < valF (0 * 10 + (b.toNat - 48)) r
    have h5 : (10 : Nat) ^ 19 = 10000000000000000000 := rfl
    omega
theorem valF_take {l : List UInt8} {k : Nat} {b : UInt8} (h : l[k]? = some b) : valF 0 (l.take (k + 1)) = valF 0 (l.take k) * 10 + (b.toNat - 48) := by
  rw [List.take_add_one, h]
  exact valF_app b _ _
/-- What a text without a sign is worth, below or not. -/
def worth (L : List UInt8) (below : Bool) : Option Int :=
  if below then (if canN L = true ∧ valF 0 L ≠ 0 ∧ valF 0 L ≤ 9223372036854775808 then some (-(valF 0 L : Int)) else none)
  else (if canN L = true ∧ valF 0 L ≤ 9223372036854775807 then some (valF 0 L : Int) else none)
theorem worth_no {L : List UInt8} {below : Bool} (h : canN L = false) : worth L below = none := by
  unfold worth
  cases below
  · rw [if_neg (by simp), if_neg (by rw [h]; simp)]
  · rw [if_pos rfl, if_neg (by rw [h]; simp)]
theorem worth_long {L : List UInt8} {below : Bool} (hl : 20 ≤ L.length) : worth L below = none := by
  cases hc : canN L
  · exact worth_no hc
  · have := can_long hc hl
    unfold worth
    cases below
    · rw [if_neg (by simp), if_neg (by omega)]
    · rw [if_pos rfl, if_neg (by omega)]
theorem worth_zero {L : List UInt8} {b : UInt8} {r : List UInt8} {below : Bool} (hL : L = b :: r) (hb : b.toNat = 48) (h : 1 < L.length ∨ below = true) : worth L below = none := by
  by_cases h1 : 1 < L.length
  · apply worth_no
    cases hc : canN L
    · rfl
    · obtain ⟨_, _, h3⟩ := (can_iff L).1 hc
      rcases h3 with h3 | h3
      · omega
      · exact absurd hb (h3 b r hL)
  · have hr : r = [] := by
      rcases r with _ | ⟨c, r⟩
      · rfl
      · rw [hL] at h1; simp at h1
    have hb' : below = true := by
      rcases h with h | h
      · exact absurd h h1
      · exact h
    subst hr hL hb'
    unfold worth
    rw [if_pos rfl, if_neg]
    rintro ⟨_, h, _⟩
    exact h (by show 0 * 10 + (b.toNat - 48) = 0; omega)
theorem worth_bad {L : List UInt8} {b : UInt8} {k : Nat} {below : Bool} (hk : L[k]? = some b) (hb : dig b = false) : worth L below = none := by
  apply worth_no
  cases hc : canN L
  · rfl
  · have := ((can_iff L).1 hc).1 b (List.mem_of_getElem? hk)
    rw [hb] at this; cases this
theorem parse_plain {s : List UInt8} (h : s.length ≤ 1 ∨ ∀ b r, s = b :: r → b.toNat ≠ 45) : parseD s = worth s false := by
  rcases s with _ | ⟨b, t⟩
  · rfl
  · by_cases hb : b.toNat = 45
    · have ht : t = [] := by
        rcases h with h | h
        · rcases t with _ | ⟨c, t⟩
          · rfl
          · simp at h
        · exact absurd hb (h b t rfl)
      subst ht
      rw [worth_bad (k := 0) rfl (by simp [dig]; omega)]
      show (if _ then _ else _) = _
      rw [if_pos hb, if_neg (by simp [canN])]
    · show (if _ then _ else _) = worth _ _
      rw [if_neg hb]
      unfold worth
      rw [if_neg (show ¬ (false = true) by decide)]
theorem parse_below {b : UInt8} {t : List UInt8} (hb : b.toNat = 45) : parseD (b :: t) = worth t true := by
  show (if _ then _ else _) = (if _ then _ else _)
  rw [if_pos hb, if_pos rfl]
end Go.Proofs.YtakhcfemakapbaaGreatDoor.NumC
