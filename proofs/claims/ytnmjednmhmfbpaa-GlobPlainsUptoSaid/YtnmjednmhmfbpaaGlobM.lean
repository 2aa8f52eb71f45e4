/- Plain facts on patterns: what a pattern means; the invariant of a matcher that goes back to the last star. -/
import Derived.Test.YtnmjednmhmfbpaaGlobA
namespace Go.Proofs.Ytnmjednmhmfbpaa.GlobM
open Go.Proofs.Ytnmjednmhmfbpaa.GlobA

theorem cls_len : ∀ (n : Nat) (c : UInt8) (l : List UInt8) (nm : Bool), l.length ≤ n → (cls c l nm).1.length ≤ l.length := by
  intro n
  induction n with
  | zero =>
    intro c l nm h
    obtain rfl : l = [] := List.eq_nil_of_length_eq_zero (by omega)
    simp [cls]
  | succ n ih =>
    intro c l nm h
    match l, h with
    | [], _ => simp [cls]
    | [a], _ => simp only [cls]; split <;> simp
    | [a, b], h =>
      simp only [cls]
      split
      · simp
      · split
        · simp
        · have := ih c [b] (nm || a == c) (by simp at h ⊢; omega)
          simp only [cls] at this ⊢
          simp at this ⊢; omega
    | a :: b :: d :: r, h =>
      simp only [cls]
      simp only [List.length_cons] at h ⊢
      split
      · have := ih c (d :: r) (nm || b == c) (by simp; omega)
        simp at this; omega
      · split
        · simp
        · split
          · have := ih c r (nm || (decide (min a d ≤ c) && decide (c ≤ max a d))) (by omega)
            omega
          · have := ih c (b :: d :: r) (nm || a == c) (by simp; omega)
            simp at this; omega

/-- What is left behind a class is the same for each byte. -/
theorem cls_rest : ∀ (n : Nat) (c c' : UInt8) (l : List UInt8) (nm nm' : Bool), l.length ≤ n → (cls c l nm).1 = (cls c' l nm').1 := by
  intro n
  induction n with
  | zero =>
    intro c c' l nm nm' h
    obtain rfl : l = [] := List.eq_nil_of_length_eq_zero (by omega)
    simp [cls]
  | succ n ih =>
    intro c c' l nm nm' h
    match l, h with
    | [], _ => simp [cls]
    | [a], _ => simp only [cls]; split <;> simp
    | [a, b], h =>
      simp only [cls]
      split
      · rfl
      · split
        · rfl
        · split <;> simp
    | a :: b :: d :: r, h =>
      simp only [cls]
      simp only [List.length_cons] at h
      split
      · exact ih _ _ _ _ _ (by simp; omega)
      · split
        · rfl
        · split
          · exact ih _ _ _ _ _ (by omega)
          · exact ih _ _ _ _ _ (by simp; omega)

theorem clsT_len (c : UInt8) (l : List UInt8) : (clsT c l).1.length ≤ l.length := by
  unfold clsT; split
  · have := cls_len l.tail.length c l.tail false (Nat.le_refl _)
    simp at this ⊢; omega
  · exact cls_len l.length c l false (Nat.le_refl _)
theorem clsT_rest (c c' : UInt8) (l : List UInt8) : (clsT c l).1 = (clsT c' l).1 := by
  unfold clsT; split <;> exact cls_rest _ _ _ _ _ _ (Nat.le_refl _)
theorem piece_len (c a : UInt8) (p : List UInt8) : (piece c (a :: p)).1.length ≤ p.length := by
  unfold piece
  simp only []
  split
  · simp
  · split
    · exact clsT_len c p
    · split
      · simp
      · simp
theorem piece_rest (c c' : UInt8) (l : List UInt8) : (piece c l).1 = (piece c' l).1 := by
  cases l with
  | nil => rfl
  | cons a p =>
    unfold piece
    simp only []
    split
    · rfl
    · split
      · exact clsT_rest c c' p
      · split <;> rfl

/-- Whether a pattern means a text. -/
def means (p s : List UInt8) : Bool :=
  match p with
  | [] => s.isEmpty
  | a :: p' =>
    if a = 42 then means p' s || (match s with | [] => false | _ :: s' => means (a :: p') s')
    else match s with
      | [] => false
      | c :: s' => (piece c (a :: p')).2 && means (piece c (a :: p')).1 s'
termination_by p.length + s.length
decreasing_by
  · simp
  · simp
  · have := piece_len c a p'
    simp; omega

theorem means_nil (s : List UInt8) : means [] s = s.isEmpty := by rw [means]
theorem means_star_nil (p : List UInt8) : means (42 :: p) [] = means p [] := by rw [means]; simp
theorem means_star_cons (p s : List UInt8) (c : UInt8) : means (42 :: p) (c :: s) = (means p (c :: s) || means (42 :: p) s) := by rw [means]; simp
theorem means_one_nil {a : UInt8} (h : a ≠ 42) (p : List UInt8) : means (a :: p) [] = false := by rw [means]; simp [h]
theorem means_one_cons {a : UInt8} (h : a ≠ 42) (p s : List UInt8) (c : UInt8) : means (a :: p) (c :: s) = ((piece c (a :: p)).2 && means (piece c (a :: p)).1 s) := by
  rw [means]; simp [h]

theorem means_star (p : List UInt8) : ∀ s : List UInt8, means (42 :: p) s = true ↔ ∃ j, j ≤ s.length ∧ means p (s.drop j) = true
  | [] => by rw [means_star_nil]; simp
  | c :: s => by
    rw [means_star_cons, Bool.or_eq_true, means_star p s]
    constructor
    · rintro (h | ⟨j, hj, h⟩)
      · exact ⟨0, by simp, by simpa using h⟩
      · exact ⟨j + 1, by simp; omega, by simpa using h⟩
    · rintro ⟨j, hj, h⟩
      match j, hj, h with
      | 0, _, h => exact .inl (by simpa using h)
      | j + 1, hj, h => exact .inr ⟨j, by simp at hj; omega, by simpa using h⟩

/-- The matcher's state: at places p of the pattern and i of the text, the last star's place behind it q (if there is one), its row's end when it was tried last. -/
def Inv (P S : List UInt8) (p i : Nat) (star : Int) (from' : Nat) : Prop :=
  p ≤ P.length ∧ i ≤ S.length ∧ from' ≤ i ∧
  ((star = -1 ∧ from' = 0 ∧ means P S = means (P.drop p) (S.drop i)) ∨
   ∃ q : Nat, star = q ∧ q ≤ P.length ∧
     (means P S = true ↔ means (P.drop p) (S.drop i) = true ∨ ∃ j, from' < j ∧ j ≤ S.length ∧ means (P.drop q) (S.drop j) = true) ∧
     (∀ t, means (P.drop q) t = true → i - from' ≤ t.length ∧ means (P.drop p) (t.drop (i - from')) = true))

section
variable {P S : List UInt8} {p i : Nat} {star : Int} {from' : Nat}
theorem inv_start : Inv P S 0 0 (-1) 0 := ⟨by simp, by simp, by simp, .inl ⟨rfl, rfl, by simp⟩⟩

theorem inv_star (h : Inv P S p i star from') (hp : P[p]? = some 42) : Inv P S (p + 1) i ((p : Int) + 1) i := by
  obtain ⟨h1, h2, h3, h4⟩ := h
  have hd := drop1 hp
  have hpl := (List.getElem?_eq_some_iff.1 hp).1
  refine ⟨by omega, h2, Nat.le_refl _, .inr ⟨p + 1, by omega, by omega, ?_, ?_⟩⟩
  · have key : means (P.drop p) (S.drop i) = true ↔ means (P.drop (p + 1)) (S.drop i) = true ∨ ∃ j, i < j ∧ j ≤ S.length ∧ means (P.drop (p + 1)) (S.drop j) = true := by
      rw [hd, means_star]
      constructor
      · rintro ⟨j, hj, h⟩
        rw [List.drop_drop] at h
        simp at hj
        rcases Nat.eq_zero_or_pos j with rfl | hj0
        · exact .inl (by simpa using h)
        · exact .inr ⟨i + j, by omega, by omega, h⟩
      · rintro (h | ⟨j, hj1, hj2, h⟩)
        · exact ⟨0, by simp, by simpa using h⟩
        · exact ⟨j - i, by simp; omega, by rw [List.drop_drop, show i + (j - i) = j by omega]; exact h⟩
    rcases h4 with ⟨_, _, e⟩ | ⟨q, _, hq, h5, h6⟩
    · rw [e]; exact key
    · rw [h5, key]
      constructor
      · rintro (h | ⟨j, hj1, hj2, h⟩)
        · exact h
        · obtain ⟨h7, h8⟩ := h6 _ h
          rw [List.drop_drop, hd, means_star] at h8
          obtain ⟨j', hj', h8⟩ := h8
          rw [List.drop_drop] at h8
          simp at h7 hj'
          exact .inr ⟨j + (i - from') + j', by omega, by omega, h8⟩
      · exact .inl
  · intro t ht
    simpa using ht

theorem means_one_some (hp : p < P.length) (hne : P[p]? ≠ some 42) (c : UInt8) (t : List UInt8) :
    means (P.drop p) (c :: t) = ((piece c (P.drop p)).2 && means (piece c (P.drop p)).1 t) := by
  have hd : P.drop p = P[p] :: P.drop (p + 1) := List.drop_eq_getElem_cons hp
  rw [hd, means_one_cons (fun e => hne (by rw [List.getElem?_eq_getElem hp, e]))]

theorem inv_piece (h : Inv P S p i star from') (hp : p < P.length) (hne : P[p]? ≠ some 42) {c : UInt8} (hc : S[i]? = some c) {n : Nat} (hn : n ≤ P.length) (hpc : piece c (P.drop p) = (P.drop n, true)) :
    Inv P S n (i + 1) star from' := by
  obtain ⟨h1, h2, h3, h4⟩ := h
  have hil := (List.getElem?_eq_some_iff.1 hc).1
  have hs := drop1 hc
  have key : means (P.drop p) (S.drop i) = means (P.drop n) (S.drop (i + 1)) := by
    rw [hs, means_one_some hp hne, hpc]; simp
  refine ⟨hn, by omega, by omega, ?_⟩
  rcases h4 with ⟨a, b, e⟩ | ⟨q, hs', hq, h5, h6⟩
  · exact .inl ⟨a, b, by rw [e, key]⟩
  · refine .inr ⟨q, hs', hq, by rw [h5, key], fun t ht => ?_⟩
    obtain ⟨h7, h8⟩ := h6 t ht
    rcases hd : t.drop (i - from') with _ | ⟨d, r⟩
    · rw [hd] at h8
      have hd2 : P.drop p = P[p] :: P.drop (p + 1) := List.drop_eq_getElem_cons hp
      rw [hd2, means_one_nil (fun e => hne (by rw [List.getElem?_eq_getElem hp, e]))] at h8
      cases h8
    · rw [hd, means_one_some hp hne] at h8
      have hr : (piece d (P.drop p)).1 = P.drop n := by rw [piece_rest d c, hpc]
      rw [hr] at h8
      have hl := congrArg List.length hd
      simp at hl
      refine ⟨by omega, ?_⟩
      have : t.drop (i + 1 - from') = r := by
        rw [show i + 1 - from' = (i - from') + 1 by omega, ← List.drop_drop, hd]; rfl
      rw [this]
      exact (Bool.and_eq_true_iff.1 h8).2

/-- Here nothing fits. -/
def Stuck (P S : List UInt8) (p i : Nat) : Prop := means (P.drop p) (S.drop i) = false
theorem stuck_piece (hp : p < P.length) (hne : P[p]? ≠ some 42) {c : UInt8} (hc : S[i]? = some c) {r : List UInt8} (hpc : piece c (P.drop p) = (r, false)) : Stuck P S p i := by
  unfold Stuck; rw [drop1 hc, means_one_some hp hne, hpc]; rfl
theorem stuck_end (hp : P.length ≤ p) (hi : i < S.length) : Stuck P S p i := by
  unfold Stuck; rw [drop0 hp, means_nil, List.drop_eq_getElem_cons hi]; rfl

theorem inv_no (h : Inv P S p i star from') (hs : Stuck P S p i) (hst : star < 0) : means P S = false := by
  obtain ⟨h1, h2, h3, ⟨_, _, e⟩ | ⟨q, rfl, _⟩⟩ := h
  · rw [e]; exact hs
  · omega
theorem inv_back (h : Inv P S p i star from') (hs : Stuck P S p i) (hst : ¬ star < 0) (hi : i < S.length) : Inv P S star.toNat (from' + 1) star (from' + 1) := by
  obtain ⟨h1, h2, h3, ⟨e, _⟩ | ⟨q, rfl, hq, h5, h6⟩⟩ := h
  · omega
  · refine ⟨by simpa using hq, by omega, Nat.le_refl _, .inr ⟨q, rfl, hq, ?_, fun t ht => by simpa using ht⟩⟩
    rw [h5]
    simp only [Int.toNat_natCast]
    constructor
    · rintro (h | ⟨j, hj1, hj2, h⟩)
      · rw [hs] at h; cases h
      · rcases Nat.lt_or_ge (from' + 1) j with hj | hj
        · exact .inr ⟨j, hj, hj2, h⟩
        · obtain rfl : j = from' + 1 := by omega
          exact .inl h
    · rintro (h | ⟨j, hj1, hj2, h⟩)
      · exact .inr ⟨from' + 1, by omega, by omega, h⟩
      · exact .inr ⟨j, by omega, hj2, h⟩
theorem inv_end (h : Inv P S p i star from') (hi : ¬ i < S.length) : means P S = means (P.drop p) [] := by
  obtain ⟨h1, h2, h3, h4⟩ := h
  have hi' : S.drop i = [] := drop0 (by omega)
  rcases h4 with ⟨_, _, e⟩ | ⟨q, rfl, hq, h5, h6⟩
  · rw [e, hi']
  · rw [Bool.eq_iff_iff, h5, hi']
    constructor
    · rintro (h | ⟨j, hj1, hj2, h⟩)
      · exact h
      · have := (h6 _ h).1
        simp at this; omega
    · exact .inl
theorem inv_le (h : Inv P S p i star from') : p ≤ P.length ∧ i ≤ S.length ∧ from' ≤ i := ⟨h.1, h.2.1, h.2.2.1⟩
theorem inv_star_le (h : Inv P S p i star from') : -1 ≤ star ∧ star ≤ P.length := by
  obtain ⟨_, _, _, ⟨rfl, _⟩ | ⟨q, rfl, hq, _⟩⟩ := h <;> omega
theorem end_star (hp : P[p]? = some 42) : means (P.drop p) [] = means (P.drop (p + 1)) [] := by rw [drop1 hp, means_star_nil]
theorem end_one (hp : p < P.length) (hne : P[p]? ≠ some 42) : means (P.drop p) [] = false := by
  rw [List.drop_eq_getElem_cons hp, means_one_nil (fun e => hne (by rw [List.getElem?_eq_getElem hp, e]))]
theorem end_end (hp : P.length ≤ p) : means (P.drop p) [] = true := by rw [drop0 hp, means_nil]; rfl
end

/-- The matcher's measure. -/
def mu (n f i : Nat) : Nat := (n + 1 - f) * (n + 2) + (n - i)
theorem mu_star {n f i : Nat} (h : f ≤ i) : mu n i i ≤ mu n f i := by
  unfold mu
  have := Nat.mul_le_mul_right (n + 2) (show n + 1 - i ≤ n + 1 - f by omega)
  omega
theorem mu_step {n f i : Nat} (h : i < n) : mu n f (i + 1) < mu n f i := by unfold mu; omega
theorem mu_back {n f i : Nat} (h : f ≤ i) (hi : i < n) : mu n (f + 1) (f + 1) < mu n f i := by
  unfold mu
  have h1 : n + 1 - f = (n + 1 - (f + 1)) + 1 := by omega
  rw [h1, Nat.add_mul]
  omega
end Go.Proofs.Ytnmjednmhmfbpaa.GlobM
