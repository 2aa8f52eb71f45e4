/-
  RankParts. Conditions: as stated.
-/
import Derived.Test.YtakhcfemakapbaaGreatDoorRjO
set_option maxRecDepth 100000
set_option linter.unusedSimpArgs false
set_option linter.unusedVariables false
namespace Go.Proofs.YtakhcfemakapbaaGreatDoor.RjQ
open Go Go.RowKit Go.Shelf Go.Sort Go.Proofs.YtakhcfemakapbaaGreatDoor.Mem Go.Proofs.YtakhcfemakapbaaGreatDoor.DuA Go.Proofs.YtakhcfemakapbaaGreatDoor.DuM Go.Proofs.YtakhcfemakapbaaGreatDoor.DuN Go.Proofs.YtakhcfemakapbaaGreatDoor.NumA Go.Proofs.YtakhcfemakapbaaGreatDoor.NumC Go.Proofs.YtakhcfemakapbaaGreatDoor.NumE Go.Proofs.YtakhcfemakapbaaGreatDoor.RkA Go.Proofs.YtakhcfemakapbaaGreatDoor.RkC Go.Proofs.YtakhcfemakapbaaGreatDoor.RkB Go.Proofs.YtakhcfemakapbaaGreatDoor.RkE Go.Proofs.YtakhcfemakapbaaGreatDoor.RkF Go.Proofs.YtakhcfemakapbaaGreatDoor.RkH Go.Proofs.YtakhcfemakapbaaGreatDoor.RkI Go.Proofs.YtakhcfemakapbaaGreatDoor.RkL Go.Proofs.YtakhcfemakapbaaGreatDoor.RkM Go.Proofs.YtakhcfemakapbaaGreatDoor.RkN Go.Proofs.YtakhcfemakapbaaGreatDoor.RkO Go.Proofs.YtakhcfemakapbaaGreatDoor.RkP Go.Proofs.YtakhcfemakapbaaGreatDoor.RkQ Go.Proofs.YtakhcfemakapbaaGreatDoor.RkS Go.Proofs.YtakhcfemakapbaaGreatDoor.RkU Go.Proofs.YtakhcfemakapbaaGreatDoor.RkW Go.Proofs.YtakhcfemakapbaaGreatDoor.RjJ Go.Proofs.YtakhcfemakapbaaGreatDoor.RjK Go.Proofs.YtakhcfemakapbaaGreatDoor.RjL Go.Proofs.YtakhcfemakapbaaGreatDoor.RjM Go.Proofs.YtakhcfemakapbaaGreatDoor.RjN Go.Proofs.YtakhcfemakapbaaGreatDoor.RjO

theorem up_ex {p : En → Bool} : ∀ L : List En, L.Pairwise (fun x y => p x = true → p y = true) → ∃ B, B ≤ L.length ∧ ∀ i x, L[i]? = some x → (p x = true ↔ B ≤ i)
  | [], _ => ⟨0, Nat.le_refl _, fun i x h => by simp at h⟩
  | a :: r, h => by
    rw [List.pairwise_cons] at h
    cases ha : p a
    · obtain ⟨B, hB, hr⟩ := up_ex r h.2
      refine ⟨B + 1, by simp; omega, fun i x hx => ?_⟩
      cases i with
      | zero => simp at hx; subst hx; simp [ha]
      | succ i => rw [hr i x (by simpa using hx)]; omega
    · refine ⟨0, Nat.zero_le _, fun i x hx => ?_⟩
      cases i with
      | zero => simp at hx; subst hx; simp [ha]
      | succ i => simp [h.1 x (List.mem_of_getElem? (by simpa using hx)) ha]
theorem fil_drop {p : En → Bool} : ∀ (L : List En) (B : Nat), (∀ i x, L[i]? = some x → (p x = true ↔ B ≤ i)) → L.filter p = L.drop B
  | [], B, _ => by simp
  | a :: r, 0, h => by
    have h0 := (h 0 a rfl).2 (Nat.zero_le _)
    rw [List.filter_cons_of_pos h0, fil_drop r 0 (fun i x hx => by simpa using (h (i + 1) x (by simpa using hx)))]
    simp
  | a :: r, B + 1, h => by
    have h0 : ¬ p a = true := fun e => by have := (h 0 a rfl).1 e; omega
    rw [List.filter_cons_of_neg h0, List.drop_succ_cons]
    exact fil_drop r B (fun i x hx => by rw [h (i + 1) x (by simpa using hx)]; omega)
theorem fil_take {p : En → Bool} : ∀ (L : List En) (U : Nat), (∀ i x, L[i]? = some x → (p x = true ↔ i < U)) → L.filter p = L.take U
  | [], U, _ => by simp
  | a :: r, 0, h => by
    rw [List.take_zero, List.filter_eq_nil_iff]
    intro x hx hp
    obtain ⟨i, hi⟩ := List.getElem?_of_mem hx
    have := (h i x hi).1 hp
    omega
  | a :: r, U + 1, h => by
    have h0 := (h 0 a rfl).2 (by omega)
    rw [List.filter_cons_of_pos h0, List.take_succ_cons, fil_take r U (fun i x hx => by rw [h (i + 1) x (by simpa using hx)]; omega)]
theorem let_up {b : Bd} {s t : Int} (h : s ≤ t) (hs : letB b (cmpI s b.score) true = true) : letB b (cmpI t b.score) true = true := by
  unfold letB cmpI at *
  by_cases h1 : b.inf ≠ 0
  · rw [if_pos h1] at hs ⊢; exact hs
  · rw [if_neg h1] at hs ⊢
    by_cases a1 : s < b.score
    · simp [a1] at hs
    · by_cases a2 : b.score < s
      · have b1 : ¬ t < b.score := by omega
        have b2 : b.score < t := by omega
        simp [b1, b2]
      · have e : ¬ t < b.score := by omega
        simp only [if_neg a1, if_neg a2, if_true] at hs
        by_cases b2 : b.score < t
        · simp [e, b2]
        · simp [e, b2, hs]
theorem let_down {b : Bd} {s t : Int} (h : s ≤ t) (ht : letB b (cmpI t b.score) false = true) : letB b (cmpI s b.score) false = true := by
  unfold letB cmpI at *
  by_cases h1 : b.inf ≠ 0
  · rw [if_pos h1] at ht ⊢; exact ht
  · rw [if_neg h1] at ht ⊢
    by_cases a1 : s < b.score
    · simp [a1]
    · have e : ¬ t < b.score := by omega
      by_cases b2 : b.score < t
      · simp [e, b2] at ht
      · have a2 : ¬ b.score < s := by omega
        simp only [if_neg e, if_neg b2, if_true] at ht
        simp [a1, a2, ht]
abbrev bAll : Bd := ⟨1, false, 0, ⟨#[]⟩⟩
abbrev bNone : Bd := ⟨-1, false, 0, ⟨#[]⟩⟩
theorem let_all (c : Int) : letB bAll c false = true := by unfold letB; simp
theorem let_none (c : Int) : letB bNone c true = true := by unfold letB; simp
theorem part_f (M : List En) (p : En → Bool) : partL M p false 0 (-1) = M.filter p := by
  unfold partL cutL wayL; simp
theorem part_t (M : List En) (p : En → Bool) : partL M p true 0 (-1) = (M.filter p).reverse := by
  unfold partL cutL wayL; simp [List.filter_reverse]
structure PF (M : List En) (lo hi : Bd) (B U : Nat) (a : List En) : Prop where
  hB : B ≤ M.length
  hU : U ≤ M.length
  ab : partL M (inS lo hi) false 0 (-1) = a
  ba : partL M (inS lo hi) true 0 (-1) = a.reverse
  lo : (partL M (inS lo bAll) false 0 (-1)).length = M.length - B
  up : (partL M (inS bNone hi) false 0 (-1)).length = U
  al : partL M (inS bNone bAll) false 0 (-1) = M
  len : a.length = U - B
  at_ : ∀ i x, a[i]? = some x → M[B + i]? = some x
theorem parts_facts {M : List En} (hs : Srt ltS M) (lo hi : Bd) : ∃ B U a, PF M lo hi B U a := by
  have hord : M.Pairwise (fun x y => x.1 ≤ y.1) := hs.ord.imp (fun {x y} h => by
    unfold bef at h
    simp only [Bool.or_eq_true, Bool.and_eq_true, decide_eq_true_eq] at h
    omega)
  obtain ⟨B, hB, h1⟩ := up_ex (p := fun x => letB lo (cmpI x.1 lo.score) true) M (hord.imp (fun h => let_up h))
  obtain ⟨U, hU, h2⟩ := up_ex (p := fun x => !letB hi (cmpI x.1 hi.score) false) M (hord.imp (fun {x y} h => by
    intro hx
    cases hy : letB hi (cmpI y.1 hi.score) false
    · rfl
    · rw [let_down h hy] at hx; cases hx))
  have h2' : ∀ i x, M[i]? = some x → (letB hi (cmpI x.1 hi.score) false = true ↔ i < U) := fun i x hx => by
    have := h2 i x hx
    cases hv : letB hi (cmpI x.1 hi.score) false
    · rw [hv] at this; simp at this; simp; omega
    · rw [hv] at this; simp at this; simp; omega
  have e1 : inS lo bAll = fun x => letB lo (cmpI x.1 lo.score) true := by funext x; unfold inS; rw [let_all, Bool.and_true]
  have e2 : inS bNone hi = fun x => letB hi (cmpI x.1 hi.score) false := by funext x; unfold inS; rw [let_none, Bool.true_and]
  have e3 : inS bNone bAll = fun _ => true := by funext x; unfold inS; rw [let_all, let_none]; rfl
  have e4 : M.filter (inS lo hi) = (M.take U).drop B := by
    have : inS lo hi = fun x => (letB lo (cmpI x.1 lo.score) true && letB hi (cmpI x.1 hi.score) false) := by funext x; rfl
    rw [this]
    rw [show (fun x : En => (letB lo (cmpI x.1 lo.score) true && letB hi (cmpI x.1 hi.score) false)) = fun x => ((fun x : En => letB lo (cmpI x.1 lo.score) true) x && (fun x : En => letB hi (cmpI x.1 hi.score) false) x) from rfl, ← List.filter_filter, fil_take M U h2']
    refine fil_drop _ B (fun i x hx => ?_)
    rw [List.getElem?_take] at hx
    split at hx
    · exact h1 i x hx
    · cases hx
  refine ⟨B, U, (M.take U).drop B, hB, hU, by rw [part_f, e4], by rw [part_t, e4], ?_, ?_, ?_, ?_, ?_⟩
  · rw [part_f, e1, fil_drop M B h1, List.length_drop]
  · rw [part_f, e2, fil_take M U h2', List.length_take]; omega
  · rw [part_f, e3]; simp
  · rw [List.length_drop, List.length_take]; omega
  · intro i x hx
    rw [List.getElem?_drop, List.getElem?_take] at hx
    split at hx
    · exact hx
    · cases hx
theorem neq_self (x : En) (w : World) : (binOp .neq 51 (.agg #[.string x.2, .int .i64 x.1]) (.agg #[.string x.2, .int .i64 x.1])).run Tryz.prog w = .ok (.bool false) w := by
  have := neq_K (x.2, x.1) (x.2, x.1) w
  simpa using this
end Go.Proofs.YtakhcfemakapbaaGreatDoor.RjQ
