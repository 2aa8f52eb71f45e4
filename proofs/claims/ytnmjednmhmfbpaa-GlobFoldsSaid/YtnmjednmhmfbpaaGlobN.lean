/- Plain facts on patterns: all places of a pattern that can be come to, byte by byte. -/
import Derived.Test.YtnmjednmhmfbpaaGlobM
namespace Go.Proofs.Ytnmjednmhmfbpaa.GlobN
open Go.Proofs.Ytnmjednmhmfbpaa.GlobA Go.Proofs.Ytnmjednmhmfbpaa.GlobM

/-- Some place that is marked means the rest of the text. -/
def Ex (P : List UInt8) (L : List Bool) (t : List UInt8) : Prop := ∃ i : Nat, L[i]? = some true ∧ means (P.drop i) t = true
/-- Stars below place n may mean nothing. -/
def Closed (P : List UInt8) (L : List Bool) (n : Nat) : Prop := ∀ i, i < n → L[i]? = some true → P[i]? = some 42 → L[i + 1]? = some true
/-- What has become of the marks L, the stars below place n gone through. -/
def PastTo (P : List UInt8) (L L' : List Bool) (n : Nat) : Prop := L'.length = L.length ∧ Closed P L' n ∧ ∀ t, Ex P L' t ↔ Ex P L t

section
variable {P t : List UInt8} {L L' : List Bool} {n i j : Nat} {c : UInt8} {b x : Bool}
theorem past_start : PastTo P L L 0 := ⟨rfl, fun _ h => by omega, fun _ => Iff.rfl⟩
theorem past_skip (h : PastTo P L L' n) (hn : ¬ (L'[n]? = some true ∧ P[n]? = some 42)) : PastTo P L L' (n + 1) := by
  obtain ⟨h1, h2, h3⟩ := h
  refine ⟨h1, fun i hi ha hs => ?_, h3⟩
  rcases Nat.lt_or_ge i n with h | h
  · exact h2 i h ha hs
  · obtain rfl : i = n := by omega
    exact absurd ⟨ha, hs⟩ hn
theorem ex_set (hj : L[j]? = some b) (x : Bool) : Ex P (L.set j (b || x)) t ↔ Ex P L t ∨ (x = true ∧ means (P.drop j) t = true) := by
  have hjl := (List.getElem?_eq_some_iff.1 hj).1
  constructor
  · rintro ⟨i, hi, hm⟩
    rcases Nat.lt_trichotomy i j with h | rfl | h
    · rw [List.getElem?_set_ne (by omega)] at hi; exact .inl ⟨i, hi, hm⟩
    · rw [List.getElem?_set_self hjl] at hi
      cases b
      · right; simpa using ⟨by simpa using hi, hm⟩
      · exact .inl ⟨i, hj, hm⟩
    · rw [List.getElem?_set_ne (by omega)] at hi; exact .inl ⟨i, hi, hm⟩
  · rintro (⟨i, hi, hm⟩ | ⟨rfl, hm⟩)
    · by_cases h : i = j
      · subst h
        rw [hj] at hi; injection hi with hi; subst hi
        exact ⟨i, by rw [List.getElem?_set_self hjl]; simp, hm⟩
      · exact ⟨i, by rw [List.getElem?_set_ne (by omega)]; exact hi, hm⟩
    · exact ⟨j, by rw [List.getElem?_set_self hjl]; simp, hm⟩
theorem past_mark (h : PastTo P L L' n) (hl : L'[n]? = some true) (hs : P[n]? = some 42) (hn : L'[n + 1]? = some b) : PastTo P L (L'.set (n + 1) true) (n + 1) := by
  obtain ⟨h1, h2, h3⟩ := h
  have hlt := (List.getElem?_eq_some_iff.1 hn).1
  refine ⟨by simp [h1], fun i hi ha hs' => ?_, fun t => ?_⟩
  · rcases Nat.lt_or_ge i n with h | h
    · rw [List.getElem?_set_ne (by omega)] at ha
      by_cases e : i + 1 = n + 1
      · omega
      · rw [List.getElem?_set_ne (by omega)]; exact h2 i h ha hs'
    · obtain rfl : i = n := by omega
      rw [List.getElem?_set_self hlt]
  · have := ex_set (P := P) (t := t) hn true
    rw [Bool.or_true] at this
    rw [this, h3]
    constructor
    · rintro (h | ⟨_, hm⟩)
      · exact h
      · exact (h3 t).1 ⟨n, hl, by rw [drop1 hs, means_star]; exact ⟨0, by simp, by simpa using hm⟩⟩
    · exact .inl

/-- One byte further from a place. -/
def Step (P : List UInt8) (c : UInt8) (t : List UInt8) (i : Nat) : Prop :=
  if P[i]? = some 42 then means (P.drop i) t = true else (piece c (P.drop i)).2 = true ∧ means (piece c (P.drop i)).1 t = true
/-- What the marks for the next byte say, the places below n gone through. -/
def NextTo (P : List UInt8) (L : List Bool) (c : UInt8) (L' : List Bool) (n : Nat) : Prop :=
  L'.length = P.length + 1 ∧ ∀ t, Ex P L' t ↔ ∃ i, i < n ∧ L[i]? = some true ∧ Step P c t i

theorem next_start : NextTo P L c (List.replicate (P.length + 1) false) 0 := by
  refine ⟨by simp, fun t => ⟨?_, ?_⟩⟩
  · rintro ⟨i, hi, _⟩
    rw [List.getElem?_replicate] at hi
    split at hi <;> simp at hi
  · rintro ⟨i, h, _⟩; omega
theorem next_skip (h : NextTo P L c L' n) (hn : ¬ L[n]? = some true) : NextTo P L c L' (n + 1) := by
  refine ⟨h.1, fun t => (h.2 t).trans ⟨?_, ?_⟩⟩
  · rintro ⟨i, h1, h2⟩; exact ⟨i, by omega, h2⟩
  · rintro ⟨i, h1, h2, h3⟩
    rcases Nat.lt_or_ge i n with h | h
    · exact ⟨i, h, h2, h3⟩
    · obtain rfl : i = n := by omega
      exact absurd h2 hn
theorem next_put (h : NextTo P L c L' n) (hn : L[n]? = some true) (hj : L'[j]? = some b) (x : Bool) (hs : ∀ t, Step P c t n ↔ x = true ∧ means (P.drop j) t = true) :
    NextTo P L c (L'.set j (b || x)) (n + 1) := by
  refine ⟨by simpa using h.1, fun t => ?_⟩
  rw [ex_set hj, h.2, ← hs]
  constructor
  · rintro (⟨i, h1, h2⟩ | h2)
    · exact ⟨i, by omega, h2⟩
    · exact ⟨n, by omega, hn, h2⟩
  · rintro ⟨i, h1, h2, h3⟩
    rcases Nat.lt_or_ge i n with h | h
    · exact .inl ⟨i, h, h2, h3⟩
    · obtain rfl : i = n := by omega
      exact .inr h3
theorem next_star (h : NextTo P L c L' n) (hn : L[n]? = some true) (hs : P[n]? = some 42) (hj : L'[n]? = some b) : NextTo P L c (L'.set n true) (n + 1) := by
  have := next_put h hn hj true (fun t => by simp [Step, hs])
  rwa [Bool.or_true] at this
theorem next_piece (h : NextTo P L c L' n) (hn : L[n]? = some true) (hs : P[n]? ≠ some 42) (hj : L'[j]? = some b) (hp : piece c (P.drop n) = (P.drop j, x)) : NextTo P L c (L'.set j (b || x)) (n + 1) :=
  next_put h hn hj x (fun t => by simp [Step, hs, hp])

/-- All steps told: the marks for the next byte mean the rest just if the marks before it meant it with that byte. -/
theorem next_all (h : NextTo P L c L' P.length) (hc : Closed P L P.length) (t : List UInt8) : Ex P L' t ↔ Ex P L (c :: t) := by
  rw [h.2]
  constructor
  · rintro ⟨i, hi, h1, h2⟩
    refine ⟨i, h1, ?_⟩
    unfold Step at h2
    split at h2
    · rename_i hs
      rw [drop1 hs] at h2 ⊢
      rw [means_star_cons, h2, Bool.or_true]
    · rename_i hs
      rw [means_one_some hi hs, h2.1, h2.2]; rfl
  · rintro ⟨i, hi, hm⟩
    have key : ∀ d i, P.length - i = d → L[i]? = some true → means (P.drop i) (c :: t) = true → ∃ i, i < P.length ∧ L[i]? = some true ∧ Step P c t i := by
      intro d
      induction d with
      | zero =>
        intro i hd _ hm
        rw [drop0 (by omega), means_nil] at hm
        cases hm
      | succ d ih =>
        intro i hd hi hm
        by_cases hs : P[i]? = some 42
        · have hm' := hm
          rw [drop1 hs, means_star_cons, Bool.or_eq_true] at hm'
          rcases hm' with h1 | h1
          · exact ih (i + 1) (by omega) (hc i (by omega) hi hs) h1
          · exact ⟨i, by omega, hi, by unfold Step; rw [if_pos hs, drop1 hs]; exact h1⟩
        · rw [means_one_some (by omega) hs, Bool.and_eq_true] at hm
          exact ⟨i, by omega, hi, by unfold Step; rw [if_neg hs]; exact hm⟩
    exact key _ i rfl hi hm

/-- The marks at the head of a round: closed, and meaning what is left just if the pattern means the text. -/
def Marks (P S : List UInt8) (L : List Bool) (k : Nat) : Prop := L.length = P.length + 1 ∧ Closed P L P.length ∧ (Ex P L (S.drop k) ↔ means P S = true)
theorem marks_start {S : List UInt8} (h : PastTo P ((List.replicate (P.length + 1) false).set 0 true) L P.length) : Marks P S L 0 := by
  refine ⟨by rw [h.1]; simp, h.2.1, (h.2.2 _).trans ?_⟩
  have h0 : (List.replicate (P.length + 1) false)[0]? = some false := by simp
  have := ex_set (P := P) (t := S) h0 true
  rw [Bool.or_true] at this
  rw [List.drop_zero, this]
  constructor
  · rintro (⟨i, hi, _⟩ | ⟨_, hm⟩)
    · rw [List.getElem?_replicate] at hi; split at hi <;> simp at hi
    · simpa using hm
  · exact fun h => .inr ⟨rfl, by simpa using h⟩
theorem marks_next {S : List UInt8} {k : Nat} {L2 : List Bool} (h : Marks P S L k) (hc : S[k]? = some c) (h1 : NextTo P L c L2 P.length) (h2 : PastTo P L2 L' P.length) : Marks P S L' (k + 1) := by
  refine ⟨by rw [h2.1]; exact h1.1, h2.2.1, ?_⟩
  rw [h2.2.2, next_all h1 h.2.1, ← drop1 hc]; exact h.2.2
theorem marks_end {S : List UInt8} {k : Nat} (h : Marks P S L k) (hk : S.length ≤ k) (hb : L[P.length]? = some b) : b = means P S := by
  rw [Bool.eq_iff_iff, ← h.2.2, drop0 hk]
  constructor
  · rintro rfl; exact ⟨P.length, hb, end_end (Nat.le_refl _)⟩
  · rintro ⟨i, hi, hm⟩
    have key : ∀ d i, P.length - i = d → L[i]? = some true → means (P.drop i) [] = true → L[P.length]? = some true := by
      intro d
      induction d with
      | zero =>
        intro i hd hi _
        have := (List.getElem?_eq_some_iff.1 hi).1
        have hl := h.1
        obtain rfl : i = P.length := by omega
        exact hi
      | succ d ih =>
        intro i hd hi hm
        by_cases hs : P[i]? = some 42
        · rw [end_star hs] at hm
          exact ih (i + 1) (by omega) (h.2.1 i (by omega) hi hs) hm
        · rw [end_one (by omega) hs] at hm; cases hm
    have := key _ i rfl hi hm
    rw [hb] at this
    injection this
end
end Go.Proofs.Ytnmjednmhmfbpaa.GlobN
