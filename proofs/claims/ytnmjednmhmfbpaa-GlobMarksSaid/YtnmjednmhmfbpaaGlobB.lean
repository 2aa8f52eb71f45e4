/- Plain facts on patterns: the one text that a pattern means, and the pattern that means one text. -/
import Derived.Test.YtnmjednmhmfbpaaGlobA
namespace Go.Proofs.Ytnmjednmhmfbpaa.GlobB
open Go.Proofs.Ytnmjednmhmfbpaa.GlobA

/-- The one text that a pattern means, if it has no star, question mark or class. -/
def plainL : List UInt8 → Option (List UInt8)
  | [] => some []
  | [a] => if a = 42 ∨ a = 63 ∨ a = 91 then none else some [a]
  | a :: b :: r => if a = 42 ∨ a = 63 ∨ a = 91 then none else if a = 92 then (plainL r).map (b :: ·) else (plainL (b :: r)).map (a :: ·)

/-- A byte that means something else than itself. -/
def special (a : UInt8) : Bool := a == 42 || a == 63 || a == 91 || a == 92
/-- The pattern that means one text. -/
def quoteL : List UInt8 → List UInt8
  | [] => []
  | a :: r => (if special a then [92, a] else [a]) ++ quoteL r

section
variable {l acc : List UInt8} {c a b d : UInt8} {k : Nat}
theorem plain_end (h : l.length ≤ k) : plainL (l.drop k) = some [] := by rw [drop0 h]; rfl
theorem plain_none (h : l[k]? = some a) (ha : a = 42 ∨ a = 63 ∨ a = 91) : plainL (l.drop k) = none := by
  rw [drop1 h]; cases l.drop (k + 1) <;> simp [plainL, ha]
theorem plain_esc (h : l[k]? = some 92) (h1 : l[k + 1]? = some b) : plainL (l.drop k) = (plainL (l.drop (k + 2))).map (b :: ·) := by
  rw [drop1 h, drop1 h1]; simp [plainL]
theorem plain_one (h : l[k]? = some a) (n1 : a ≠ 42) (n2 : a ≠ 63) (n3 : a ≠ 91) (n4 : a = 92 → l.length ≤ k + 1) : plainL (l.drop k) = (plainL (l.drop (k + 1))).map (a :: ·) := by
  rw [drop1 h]
  rcases hr : l.drop (k + 1) with _ | ⟨b, r⟩
  · simp [plainL, n1, n2, n3]
  · have hl : k + 1 < l.length := by
      rcases Nat.lt_or_ge (k + 1) l.length with h | h
      · exact h
      · rw [drop0 h] at hr; cases hr
    have : a ≠ 92 := fun e => by have := n4 e; omega
    simp [plainL, n1, n2, n3, this]
theorem map_acc (x : Option (List UInt8)) (acc : List UInt8) (b : UInt8) : (x.map (b :: ·)).map (acc ++ ·) = x.map ((acc ++ [b]) ++ ·) := by
  cases x <;> simp
theorem quote_step (h : l[k]? = some a) : quoteL (l.take (k + 1)) = quoteL (l.take k) ++ (if special a then [92, a] else [a]) := by
  obtain ⟨hk, e⟩ := List.getElem?_eq_some_iff.1 h
  rw [List.take_succ_eq_append_getElem hk, e]
  generalize l.take k = q
  induction q with
  | nil => simp [quoteL]
  | cons x q ih => simp [quoteL, ih]
theorem quote_app (x y : List UInt8) : quoteL (x ++ y) = quoteL x ++ quoteL y := by
  induction x with
  | nil => rfl
  | cons a x ih => simp [quoteL, ih]
theorem quote_len (x : List UInt8) : (quoteL x).length ≤ 2 * x.length := by
  induction x with
  | nil => simp [quoteL]
  | cons a x ih => simp only [quoteL, List.length_append, List.length_cons]; split <;> simp <;> omega
theorem plain_len : ∀ (n : Nat) (x y : List UInt8), x.length ≤ n → plainL x = some y → y.length ≤ x.length := by
  intro n
  induction n with
  | zero =>
    intro x y hx h
    obtain rfl : x = [] := List.eq_nil_of_length_eq_zero (by omega)
    simp [plainL] at h; subst h; simp
  | succ n ih =>
    intro x y hx h
    match x, hx, h with
    | [], _, h => simp [plainL] at h; subst h; simp
    | [a], _, h =>
      simp only [plainL] at h
      split at h
      · cases h
      · injection h with h; subst h; simp
    | a :: b :: r, hx, h =>
      simp only [plainL] at h
      simp only [List.length_cons] at hx ⊢
      split at h
      · cases h
      · split at h
        · obtain ⟨z, hz, rfl⟩ := Option.map_eq_some_iff.1 h
          have := ih r z (by omega) hz
          simp; omega
        · obtain ⟨z, hz, rfl⟩ := Option.map_eq_some_iff.1 h
          have := ih (b :: r) z (by simp; omega) hz
          simp at this ⊢; omega
theorem special_eq (a : UInt8) : special a = (((a.toNat : Int) == (42 : Int)) || ((a.toNat : Int) == (63 : Int)) || ((a.toNat : Int) == (91 : Int)) || ((a.toNat : Int) == (92 : Int))) := by
  have e1 := u8_beq a 42
  have e2 := u8_beq a 63
  have e3 := u8_beq a 91
  have e4 := u8_beq a 92
  unfold special
  rw [← e1, ← e2, ← e3, ← e4]; rfl
theorem sp1 (h : ((a.toNat : Int) == 42) = true) : special a = true := by rw [special_eq, h]; rfl
theorem sp2 (h : ((a.toNat : Int) == 63) = true) : special a = true := by rw [special_eq, h]; simp
theorem sp3 (h : ((a.toNat : Int) == 91) = true) : special a = true := by rw [special_eq, h]; simp
theorem sp4 (h : ((a.toNat : Int) == 92) = true) : special a = true := by rw [special_eq, h]; simp
theorem sp0 (h1 : ((a.toNat : Int) == 42) = false) (h2 : ((a.toNat : Int) == 63) = false) (h3 : ((a.toNat : Int) == 91) = false) (h4 : ((a.toNat : Int) == 92) = false) : special a = false := by
  rw [special_eq, h1, h2, h3, h4]; rfl
end
end Go.Proofs.Ytnmjednmhmfbpaa.GlobB
