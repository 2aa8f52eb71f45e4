/-
  Plain law: a number's one text. Conditions: as stated.
-/
import Derived.Lib.ItoaNum
import Derived.Lib.ParseIntB
set_option linter.unusedSimpArgs false
set_option linter.unusedVariables false
namespace Go.Proofs.Ytadjgbhbeamdbaa.NumA
open Go.Lib

def dig (b : UInt8) : Bool := decide (48 ≤ b.toNat ∧ b.toNat ≤ 57)
def valF (acc : Nat) : List UInt8 → Nat
  | [] => acc
  | b :: r => valF (acc * 10 + (b.toNat - 48)) r
theorem valF_app (b : UInt8) : ∀ (l : List UInt8) (a : Nat), valF a (l ++ [b]) = valF a l * 10 + (b.toNat - 48)
  | [], a => rfl
  | c :: l, a => valF_app b l _
theorem of48 {d : Nat} (h : d < 10) : (UInt8.ofNat (48 + d)).toNat = 48 + d := by
  rw [UInt8.toNat_ofNat']; omega
theorem back48 {b : UInt8} (h : dig b = true) : UInt8.ofNat (48 + (b.toNat - 48)) = b := by
  simp only [dig, decide_eq_true_eq] at h
  rw [show 48 + (b.toNat - 48) = b.toNat by omega]
  exact UInt8.ofNat_toNat
theorem dec_ind (p : Nat → Prop) (h0 : ∀ u, u < 10 → p u) (h1 : ∀ u, ¬ u < 10 → p (u / 10) → p u) (u : Nat) : p u := by
  induction u using Nat.strongRecOn with
  | ind u ih =>
    by_cases h : u < 10
    · exact h0 u h
    · exact h1 u h (ih _ (by omega))
theorem dec_small {u : Nat} (h : u < 10) : decDigits u = [UInt8.ofNat (48 + u)] := decDigits_one h
theorem dec_big {u : Nat} (h : ¬ u < 10) : decDigits u = decDigits (u / 10) ++ [UInt8.ofNat (48 + u % 10)] := by rw [decDigits, dif_neg h]
theorem dec_dig (u : Nat) : ∀ b ∈ decDigits u, dig b = true := by
  induction u using dec_ind with
  | h0 u h =>
    intro b hb
    rw [dec_small h, List.mem_singleton] at hb
    subst hb
    simp only [dig, decide_eq_true_eq, of48 h]
    omega
  | h1 u h ih =>
    intro b hb
    rw [dec_big h] at hb
    rcases List.mem_append.1 hb with hb | hb
    · exact ih b hb
    · rw [List.mem_singleton] at hb
      subst hb
      simp only [dig, decide_eq_true_eq, of48 (Nat.mod_lt u (by decide : 0 < 10))]
      omega
theorem val_dec (u : Nat) : valF 0 (decDigits u) = u := by
  induction u using dec_ind with
  | h0 u h => rw [dec_small h]; show 0 * 10 + ((UInt8.ofNat (48 + u)).toNat - 48) = u; rw [of48 h]; omega
  | h1 u h ih => rw [dec_big h, valF_app, ih, of48 (Nat.mod_lt u (by decide : 0 < 10))]; omega
theorem dec_ne (u : Nat) : decDigits u ≠ [] := by
  induction u using dec_ind with
  | h0 u h => rw [dec_small h]; simp
  | h1 u h ih => rw [dec_big h]; simp
theorem dec_head (u : Nat) : 0 < u → ∀ b r, decDigits u = b :: r → b.toNat ≠ 48 := by
  induction u using dec_ind with
  | h0 u h =>
    intro h0 b r e
    rw [dec_small h] at e
    injection e with e _
    rw [← e, of48 h]; omega
  | h1 u h ih =>
    intro h0 b r e
    rw [dec_big h] at e
    rcases hd : decDigits (u / 10) with _ | ⟨c, r'⟩
    · exact absurd hd (dec_ne _)
    · rw [hd] at e
      injection e with e _
      subst e
      exact ih (by omega) _ _ hd
/-- Digits, no zero ahead of others. -/
def canN (t : List UInt8) : Bool := t.all dig && match t with
  | [] => false
  | [_] => true
  | b :: _ => decide (b.toNat ≠ 48)
theorem can_dec (u : Nat) : canN (decDigits u) = true := by
  unfold canN
  rw [Bool.and_eq_true, List.all_eq_true]
  refine ⟨dec_dig u, ?_⟩
  by_cases h : u < 10
  · rw [dec_small h]
  · rcases hd : decDigits u with _ | ⟨b, _ | ⟨c, r⟩⟩
    · exact absurd hd (dec_ne _)
    · rfl
    · simp only [decide_eq_true_eq]
      exact dec_head u (by omega) _ _ hd
theorem can_pre {t : List UInt8} {b : UInt8} (h : canN (t ++ [b]) = true) (hn : t ≠ []) : canN t = true ∧ dig b = true ∧ ∀ c r, t = c :: r → c.toNat ≠ 48 := by
  unfold canN at h
  rw [Bool.and_eq_true, List.all_eq_true] at h
  obtain ⟨h1, h2⟩ := h
  rcases t with _ | ⟨c, r⟩
  · exact absurd rfl hn
  · have hc : c.toNat ≠ 48 := by
      rcases r with _ | ⟨d, r⟩ <;> simpa using h2
    refine ⟨?_, h1 b (by simp), fun c' r' e => by injection e with e _; subst e; exact hc⟩
    unfold canN
    rw [Bool.and_eq_true, List.all_eq_true]
    refine ⟨fun x hx => h1 x (by simp at hx ⊢; rcases hx with h | h <;> simp [h]), ?_⟩
    rcases r with _ | ⟨d, r⟩
    · rfl
    · simpa using hc
theorem dec_val : ∀ (n : Nat) (t : List UInt8), t.length = n → canN t = true → decDigits (valF 0 t) = t := by
  intro n
  induction n with
  | zero => intro t hl h; rw [List.length_eq_zero_iff.1 hl] at h; cases h
  | succ n ih =>
    intro t hl h
    rcases List.eq_nil_or_concat t with rfl | ⟨t', b, rfl⟩
    · cases hl
    · rw [List.concat_eq_append] at *
      by_cases hn : t' = []
      · subst hn
        have hb : dig b = true := by
          simp [canN] at h; exact h
        show decDigits (0 * 10 + (b.toNat - 48)) = [b]
        have hb' := hb
        simp only [dig, decide_eq_true_eq] at hb'
        rw [dec_small (by omega), Nat.zero_mul, Nat.zero_add, back48 hb]
      · obtain ⟨h1, h2, h3⟩ := can_pre h hn
        have he := ih t' (by simpa using hl) h1
        have hv : valF 0 t' ≠ 0 := by
          intro hv
          rw [hv, dec_small (by decide)] at he
          exact h3 _ _ he.symm (by decide)
        have hb' := h2
        simp only [dig, decide_eq_true_eq] at hb'
        rw [valF_app, dec_big (by omega), show (valF 0 t' * 10 + (b.toNat - 48)) / 10 = valF 0 t' by omega, show (valF 0 t' * 10 + (b.toNat - 48)) % 10 = b.toNat - 48 by omega, he, back48 h2]
/-- The number whose text it is. -/
def parseD (s : List UInt8) : Option Int := match s with
  | [] => none
  | b :: t => if b.toNat = 45 then (if canN t = true ∧ valF 0 t ≠ 0 ∧ valF 0 t ≤ 9223372036854775808 then some (-(valF 0 t : Int)) else none)
    else (if canN (b :: t) = true ∧ valF 0 (b :: t) ≤ 9223372036854775807 then some (valF 0 (b :: t) : Int) else none)
theorem dig45 {b : UInt8} (h : dig b = true) : b.toNat ≠ 45 := by
  simp only [dig, decide_eq_true_eq] at h; omega
theorem parse_itoa {n : Int} (h0 : -9223372036854775808 ≤ n) (h1 : n ≤ 9223372036854775807) : parseD (itoa n) = some n := by
  unfold itoa
  split
  · show (if _ then _ else _) = _
    rw [if_pos ⟨can_dec _, by rw [val_dec]; omega, by rw [val_dec]; omega⟩, val_dec]
    congr 1; omega
  · rcases hd : decDigits n.toNat with _ | ⟨b, t⟩
    · exact absurd hd (dec_ne _)
    · show (if _ then _ else _) = _
      rw [if_neg (dig45 (dec_dig _ b (by rw [hd]; simp))), ← hd, if_pos ⟨can_dec _, by rw [val_dec]; omega⟩, val_dec]
      congr 1; omega
theorem itoa_parse {s : List UInt8} {n : Int} (h : parseD s = some n) : itoa n = s ∧ -9223372036854775808 ≤ n ∧ n ≤ 9223372036854775807 := by
  unfold parseD at h
  rcases s with _ | ⟨b, t⟩
  · cases h
  · simp only at h
    split at h
    · rename_i hb
      split at h
      · rename_i hc
        obtain ⟨c1, c2, c3⟩ := hc
        injection h with h
        subst h
        refine ⟨?_, by omega, by omega⟩
        unfold itoa
        rw [if_pos (by omega), show (-(valF 0 t : Int)).natAbs = valF 0 t by omega, dec_val _ _ rfl c1]
        congr 1
        exact UInt8.toNat_inj.1 (by rw [hb]; rfl)
      · cases h
    · split at h
      · rename_i hc
        injection h with h
        subst h
        refine ⟨?_, by omega, by omega⟩
        unfold itoa
        rw [if_neg (by omega), Int.toNat_natCast, dec_val _ _ rfl hc.1]
      · cases h
theorem valF_mono : ∀ (l : List UInt8) (a : Nat), a ≤ valF a l
  | [], a => Nat.le_refl _
  | b :: r, a => by
    have := valF_mono r (a * 10 + (b.toNat - 48))
    show a ≤ valF (a * 10 + (b.toNat - 48)) r
    omega
theorem uintM_ok {M : Nat} (hM : M < 18446744073709551616) : ∀ (l : List UInt8) (a : Nat), (∀ b ∈ l, dig b = true) → valF a l ≤ M → parseUintM M a l = .ok (valF a l)
  | [], a, _, _ => rfl
  | b :: r, a, hd, hv => by
    have hb := hd b (by simp)
    simp only [dig, decide_eq_true_eq] at hb
    have hm := valF_mono r (a * 10 + (b.toNat - 48))
    have hv' : valF (a * 10 + (b.toNat - 48)) r ≤ M := hv
    unfold parseUintM
    rw [if_pos hb, if_neg (by omega), if_neg (by omega)]
    exact uintM_ok hM r _ (fun x hx => hd x (by simp [hx])) hv
theorem int_itoa {n : Int} (h0 : -9223372036854775808 ≤ n) (h1 : n ≤ 9223372036854775807) : parseIntB 64 (itoa n) = .ok n := by
  have hu : ∀ u, u ≤ 9223372036854775808 → parseUintB 64 (decDigits u) = .ok u := by
    intro u hu
    unfold parseUintB
    rw [if_neg (dec_ne u), uintM_ok (by decide) _ _ (dec_dig u) (by rw [val_dec]; omega), val_dec]
  unfold itoa
  split
  · simp only [parseIntB]
    rw [if_pos (Or.inr (by decide)), hu _ (by omega)]
    simp only
    rw [if_neg (fun h => h.1 rfl), if_neg (fun h => by have := h.2; omega), if_pos (by decide)]
    congr 1
    omega
  · rcases hd : decDigits n.toNat with _ | ⟨b, t⟩
    · exact absurd hd (dec_ne _)
    · have hb := dec_dig _ b (by rw [hd]; simp)
      simp only [dig, decide_eq_true_eq] at hb
      simp only [parseIntB]
      rw [if_neg (by omega), ← hd, hu _ (by omega)]
      simp only
      rw [if_neg (by omega), if_neg (by omega), if_neg (by omega)]
      congr 1
      omega
end Go.Proofs.Ytadjgbhbeamdbaa.NumA
