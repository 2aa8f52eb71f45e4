/-
  Plain facts on quoted texts, question marks and stars: what such patterns mean. Conditions: none.
-/
import Derived.Test.YtnmjednmhmfbpaaGlobB
import Derived.Test.YtnmjednmhmfbpaaGlobM
namespace Go.Proofs.Ytnmjednmhmfbpaa.GlobQ
open Go.Proofs.Ytnmjednmhmfbpaa.GlobA Go.Proofs.Ytnmjednmhmfbpaa.GlobB Go.Proofs.Ytnmjednmhmfbpaa.GlobM

theorem special_no {a : UInt8} (h : ¬ special a = true) : a ≠ 42 ∧ a ≠ 63 ∧ a ≠ 91 ∧ a ≠ 92 := by
  simp only [special, Bool.or_eq_true, beq_iff_eq, not_or] at h
  exact ⟨h.1.1.1, h.1.1.2, h.1.2, h.2⟩

theorem quote_cons (a : UInt8) (s : List UInt8) : quoteL (a :: s) = (if special a then [92, a] else [a]) ++ quoteL s := rfl
theorem quote_nil (p t : List UInt8) : means (quoteL [] ++ p) t = means p t := rfl
theorem quote_cons_nil (a : UInt8) (s p : List UInt8) : means (quoteL (a :: s) ++ p) [] = false := by
  rw [quote_cons]
  split
  · exact means_one_nil (by decide) _
  · rename_i h; exact means_one_nil (special_no h).1 _
theorem quote_cons_cons (a c : UInt8) (s p t : List UInt8) : means (quoteL (a :: s) ++ p) (c :: t) = ((a == c) && means (quoteL s ++ p) t) := by
  rw [quote_cons]
  split
  · show means (92 :: a :: (quoteL s ++ p)) (c :: t) = _
    rw [means_one_cons (by decide)]; simp [piece]
  · rename_i h
    obtain ⟨h1, h2, h3, h4⟩ := special_no h
    show means (a :: (quoteL s ++ p)) (c :: t) = _
    rw [means_one_cons h1]; simp [piece, h2, h3, h4]

/-- A quoted text ahead of a pattern. -/
theorem means_quote (s p : List UInt8) : ∀ t, means (quoteL s ++ p) t = (decide (t.take s.length = s) && means p (t.drop s.length)) := by
  induction s with
  | nil => intro t; simp [quote_nil]
  | cons a s ih =>
    intro t
    cases t with
    | nil => rw [quote_cons_nil]; simp
    | cons c t =>
      rw [quote_cons_cons, ih]
      by_cases h : a = c
      · subst h; simp
      · have h' : ¬ c = a := fun e => h e.symm
        simp [h, h']

theorem quote_is (s t : List UInt8) : means (quoteL s) t = decide (s = t) := by
  have := means_quote s [] t
  rw [List.append_nil] at this
  rw [this, means_nil, Bool.eq_iff_iff]
  simp
  constructor
  · rintro ⟨h1, h2⟩
    have hl := congrArg List.length h1
    simp at hl
    rw [List.take_of_length_le (by omega)] at h1; exact h1.symm
  · rintro rfl; simp

theorem plain_quote (s : List UInt8) : plainL (quoteL s) = some s := by
  induction s with
  | nil => rfl
  | cons a s ih =>
    rw [quote_cons]
    split
    · show plainL (92 :: a :: quoteL s) = _
      simp [plainL, ih]
    · rename_i h
      obtain ⟨h1, h2, h3, h4⟩ := special_no h
      show plainL (a :: quoteL s) = _
      cases hq : quoteL s with
      | nil =>
        rw [hq] at ih
        simp [plainL] at ih
        subst ih
        simp [plainL, h1, h2, h3]
      | cons b r =>
        rw [hq] at ih
        simp [plainL, h1, h2, h3, h4, ih]

theorem marks_is (n : Nat) : ∀ s : List UInt8, ∀ p, means (List.replicate n 63 ++ p) s = (decide (n ≤ s.length) && means p (s.drop n)) := by
  induction n with
  | zero => intro s p; simp
  | succ n ih =>
    intro s p
    rw [List.replicate_succ]
    cases s with
    | nil => rw [List.cons_append, means_one_nil (by decide)]; simp
    | cons c s =>
      rw [List.cons_append, means_one_cons (by decide)]
      simp [piece, ih]
theorem marks_all (n : Nat) (s : List UInt8) : means (List.replicate n 63) s = decide (s.length = n) := by
  have := marks_is n s []
  rw [List.append_nil] at this
  rw [this, means_nil, Bool.eq_iff_iff]
  simp; omega
theorem star_any (s : List UInt8) : means [42] s = true := (means_star [] s).2 ⟨s.length, Nat.le_refl _, by simp [means_nil]⟩
theorem marks_star (n : Nat) (s : List UInt8) : means (List.replicate n 63 ++ [42]) s = decide (n ≤ s.length) := by
  rw [marks_is, star_any, Bool.and_true]
theorem star_ahead {p s : List UInt8} (h : means p s = true) (more : List UInt8) : means (42 :: p) (more ++ s) = true :=
  (means_star p _).2 ⟨more.length, by simp, by simpa using h⟩
theorem quote_star (s more : List UInt8) : means (quoteL s ++ [42]) (s ++ more) = true := by
  rw [means_quote, star_any]; simp
theorem star_star (s : List UInt8) : means [42, 42] s = true := (means_star [42] s).2 ⟨0, by simp, star_any _⟩
theorem ends_is (a b s : List UInt8) : means (quoteL a ++ 42 :: quoteL b) s = (decide (a.length + b.length ≤ s.length) && (decide (s.take a.length = a) && decide (s.drop (s.length - b.length) = b))) := by
  rw [means_quote, Bool.eq_iff_iff]
  simp only [Bool.and_eq_true, decide_eq_true_eq, means_star, quote_is]
  constructor
  · rintro ⟨h1, j, hj, h2⟩
    have l1 := congrArg List.length h1
    have l2 := congrArg List.length h2
    simp at l1 l2 hj
    refine ⟨by omega, h1, ?_⟩
    rw [List.drop_drop] at h2
    rw [show s.length - b.length = a.length + j by omega]; exact h2.symm
  · rintro ⟨h0, h1, h2⟩
    refine ⟨h1, s.length - b.length - a.length, by simp; omega, ?_⟩
    rw [List.drop_drop, show a.length + (s.length - b.length - a.length) = s.length - b.length by omega, h2]
end Go.Proofs.Ytnmjednmhmfbpaa.GlobQ
