/-
  Plain laws of findL and removeL: the places of what is sought. Conditions: as stated.
-/
import Derived.Test.YtgbgdgncdanblaaDqE
import Derived.Test.YtgbgdgncdanblaaDqF
set_option linter.unusedSimpArgs false
set_option linter.unusedVariables false
namespace Go.Proofs.Ytgbgdgncdanblaa.DqM
open Go.RowKit Go.Proofs.Ytgbgdgncdanblaa.Mem Go.Proofs.Ytgbgdgncdanblaa.DqA Go.Proofs.Ytgbgdgncdanblaa.DqB Go.Proofs.Ytgbgdgncdanblaa.DqD Go.Proofs.Ytgbgdgncdanblaa.DqE Go.Proofs.Ytgbgdgncdanblaa.DqF

/-- The places of v from k on, below m. -/
def occB (l : List Int) (v : Int) (k m : Nat) : List Int := if k < m then (if l[k]? = some v then (k : Int) :: occB l v (k + 1) m else occB l v (k + 1) m) else []
termination_by m - k
theorem occ_end {l : List Int} {v : Int} {k m : Nat} (h : ¬ k < m) : occB l v k m = [] := by rw [occB, if_neg h]
theorem occ_hit {l : List Int} {v : Int} {k m : Nat} (h : k < m) (hv : l[k]? = some v) : occB l v k m = (k : Int) :: occB l v (k + 1) m := by rw [occB, if_pos h, if_pos hv]
theorem occ_miss {l : List Int} {v : Int} {k m : Nat} (h : k < m) (hv : l[k]? ≠ some v) : occB l v k m = occB l v (k + 1) m := by rw [occB, if_pos h, if_neg hv]
theorem occ_split (l : List Int) (v : Int) (j m : Nat) (hjm : j ≤ m) : ∀ (d k : Nat), k + d = j → occB l v k m = occB l v k j ++ occB l v j m := by
  intro d
  induction d with
  | zero => intro k h; obtain rfl : k = j := by omega
            rw [occ_end (m := k) (by omega)]; rfl
  | succ d ih =>
    intro k h
    by_cases hv : l[k]? = some v
    · rw [occ_hit (by omega) hv, occ_hit (m := j) (by omega) hv, ih (k + 1) (by omega)]; rfl
    · rw [occ_miss (by omega) hv, occ_miss (m := j) (by omega) hv, ih (k + 1) (by omega)]
theorem occ_len (l : List Int) (v : Int) (m : Nat) : ∀ (d k : Nat), k + d = m → (occB l v k m).length ≤ d := by
  intro d
  induction d with
  | zero => intro k h; rw [occ_end (by omega)]; simp
  | succ d ih =>
    intro k h
    by_cases hv : l[k]? = some v
    · rw [occ_hit (by omega) hv]; have := ih (k + 1) (by omega); simp; omega
    · rw [occ_miss (by omega) hv]; have := ih (k + 1) (by omega); omega
/-- Behind one more round. -/
theorem occ_next (l : List Int) (v : Int) (i : Nat) : occB l v 0 (i + 1) = occB l v 0 i ++ (if l[i]? = some v then [(i : Int)] else []) := by
  rw [occ_split l v i (i + 1) (by omega) i 0 (by omega)]
  by_cases hv : l[i]? = some v
  · rw [occ_hit (k := i) (by omega) hv, occ_end (k := i + 1) (by omega), if_pos hv]
  · rw [occ_miss (k := i) (by omega) hv, occ_end (k := i + 1) (by omega), if_neg hv]

/-- All from k on, up to a bound m on the rounds (0: none). -/
theorem go_most (l : List Int) (v : Int) (m : Nat) (hm : 1 ≤ m) (hml : m ≤ l.length) : ∀ (d k : Nat) (out : List Int), k + d = m → findGo l v false 0 m k 0 out = out ++ occB l v k m := by
  intro d
  induction d with
  | zero => intro k out h; rw [go_stop (.inr (.inl (by omega))), occ_end (by omega)]; simp
  | succ d ih =>
    intro k out h
    have C : ¬ ((1 ≤ (m : Int) ∧ (m : Int) ≤ k) ∨ (1 ≤ (0 : Int) ∧ (out.length : Int) = 0)) := by omega
    by_cases hv : l[k]? = some v
    · rw [go_take (by omega) C (by exact hv) (by omega), ih (k + 1) _ (by omega), occ_hit (by omega) hv]; simp [spot]
    · rw [go_skip (by omega) C (by exact hv), ih (k + 1) _ (by omega), occ_miss (by omega) hv]
theorem go_all (l : List Int) (v : Int) : ∀ (d k : Nat) (out : List Int), k + d = l.length → findGo l v false 0 0 k 0 out = out ++ occB l v k l.length := by
  intro d
  induction d with
  | zero => intro k out h; rw [go_stop (.inl (by omega)), occ_end (by omega)]; simp
  | succ d ih =>
    intro k out h
    have C : ¬ ((1 ≤ (0 : Int) ∧ (0 : Int) ≤ k) ∨ (1 ≤ (0 : Int) ∧ (out.length : Int) = 0)) := by omega
    by_cases hv : l[k]? = some v
    · rw [go_take (by omega) C (by exact hv) (by omega), ih (k + 1) _ (by omega), occ_hit (by omega) hv]; simp [spot]
    · rw [go_skip (by omega) C (by exact hv), ih (k + 1) _ (by omega), occ_miss (by omega) hv]
theorem go_back (l : List Int) (v : Int) : ∀ (d k : Nat) (out : List Int), k + d = l.length → findGo l v true 0 0 k 0 out = out ++ (occB l v 0 d).reverse := by
  intro d
  induction d with
  | zero => intro k out h; rw [go_stop (.inl (by omega)), occ_end (by omega)]; simp
  | succ d ih =>
    intro k out h
    have C : ¬ ((1 ≤ (0 : Int) ∧ (0 : Int) ≤ k) ∨ (1 ≤ (0 : Int) ∧ (out.length : Int) = 0)) := by omega
    have e : l.length - 1 - k = d := by omega
    by_cases hv : l[d]? = some v
    · rw [go_take (by omega) C (by simp only [spot, if_true, e]; exact hv) (by omega), ih (k + 1) _ (by omega), occ_next, if_pos hv]; simp [spot, e]
    · rw [go_skip (by omega) C (by simp only [spot, if_true, e]; exact hv), ih (k + 1) _ (by omega), occ_next, if_neg hv]; simp
/-- The first behind s that are passed over. -/
theorem go_one (l : List Int) (v : Int) : ∀ (d k s : Nat), k + d = l.length → findGo l v false 1 0 k s [] = ((occB l v k l.length).drop s).take 1 := by
  intro d
  induction d with
  | zero => intro k s h; rw [go_stop (.inl (by omega)), occ_end (by omega)]; simp
  | succ d ih =>
    intro k s h
    have C : ¬ ((1 ≤ (0 : Int) ∧ (0 : Int) ≤ k) ∨ (1 ≤ (1 : Int) ∧ (([] : List Int).length : Int) = 1)) := by simp
    by_cases hv : l[k]? = some v
    · rw [occ_hit (by omega) hv]
      cases s with
      | zero => rw [go_take (by omega) C (by exact hv) (by simp)]
                by_cases hk : k + 1 < l.length
                · rw [go_stop (.inr (.inr (by simp)))]; simp [spot]
                · rw [go_stop (.inl hk)]; simp [spot]
      | succ s => rw [go_less (by omega) C (by exact hv) (by omega), show ((s + 1 : Nat) : Int) - 1 = (s : Int) by omega, ih (k + 1) s (by omega)]; simp
    · rw [go_skip (by omega) C (by exact hv), ih (k + 1) s (by omega), occ_miss (by omega) hv]

theorem find_all (l : List Int) (v : Int) : findL l v 1 0 0 = occB l v 0 l.length := by
  unfold findL; rw [if_neg (by decide)]; exact go_all l v l.length 0 [] (by omega)
theorem find_back (l : List Int) (v : Int) : findL l v (-1) 0 0 = (occB l v 0 l.length).reverse := by
  unfold findL; rw [if_neg (by decide)]; exact go_back l v l.length 0 [] (by omega)
theorem find_zero (l : List Int) (v : Int) : findL l v 0 0 0 = [] := by unfold findL; rw [if_pos (by decide)]
theorem find_min (l : List Int) (v : Int) : findL l v (-9223372036854775808) 0 0 = [] := by unfold findL; rw [if_pos (by decide)]
theorem find_most (l : List Int) (v : Int) (i : Nat) (h : i < l.length) : findL l v 1 0 ((i : Int) + 1) = occB l v 0 (i + 1) := by
  unfold findL; rw [if_neg (by decide)]
  have := go_most l v (i + 1) (by omega) (by omega) (i + 1) 0 [] (by omega)
  exact this
theorem find_nth (l : List Int) (v : Int) (i at_ : Nat) (h : i < l.length) (hv : l[i]? = some v) (ha : (occB l v 0 i).length = at_) : findL l v ((at_ : Int) + 1) 1 0 = [(i : Int)] := by
  unfold findL
  rw [if_neg (by omega), if_neg (by omega), decide_eq_false (by omega), show (at_ : Int) + 1 - 1 = (at_ : Int) by omega, go_one l v l.length 0 at_ (by omega),
    occ_split l v i l.length (by omega) i 0 (by omega), occ_hit (k := i) h hv, List.drop_append_of_le_length (by omega), ← ha, List.drop_length]
  rfl

theorem rm_all (v : Int) : ∀ (l : List Int) (m : Int), (l.length : Int) ≤ m → rmF v l m = l.filter (fun x => x != v)
  | [], _, _ => rfl
  | x :: r, m, h => by
    unfold rmF
    simp at h
    by_cases hx : x = v
    · rw [if_pos ⟨hx, by omega⟩, rm_all v r (m - 1) (by omega)]; simp [hx]
    · rw [if_neg (fun c => hx c.1), rm_all v r m (by omega)]; simp [hx]
theorem remove_min (l : List Int) (v : Int) : removeL l (-9223372036854775808) v = l.filter (fun x => x != v) := by
  have hm : mostN l.length (-9223372036854775808) = l.length := by unfold mostN; rw [if_neg (by decide), if_neg (by decide)]
  unfold removeL
  rw [if_pos (by decide), hm, rm_all v _ _ (by simp)]
  rw [List.filter_reverse, List.reverse_reverse]
theorem rest_len (l : List Int) (v : Int) : ∀ i, i ≤ l.length → (occB l v 0 i).length + ((l.take i).filter (fun x => x != v)).length = i := by
  intro i
  induction i with
  | zero => intro _; rw [occ_end (by omega)]; simp
  | succ i ih =>
    intro h
    have := ih (by omega)
    obtain ⟨y, hy⟩ : ∃ y, l[i]? = some y := ⟨_, List.getElem?_eq_getElem (by omega)⟩
    rw [occ_next, List.take_add_one, hy]
    by_cases hv : y = v
    · simp [hv]; omega
    · simp [hv]; omega
theorem rest_next (l : List Int) (v y : Int) (i : Nat) (hy : l[i]? = some y) : (l.take (i + 1)).filter (fun x => x != v) = (l.take i).filter (fun x => x != v) ++ (if y = v then [] else [y]) := by
  rw [List.take_add_one, hy]
  by_cases hv : y = v
  · simp [hv]
  · simp [hv]
end Go.Proofs.Ytgbgdgncdanblaa.DqM
