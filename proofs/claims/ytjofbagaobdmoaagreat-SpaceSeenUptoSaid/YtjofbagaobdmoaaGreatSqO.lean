/-
  Plain law: what is seen, and what is over by its deadline. Conditions: as stated.
-/
import Derived.Test.YtjofbagaobdmoaaGreatSqH
set_option maxRecDepth 100000
set_option linter.unusedSimpArgs false
set_option linter.unusedVariables false
namespace Go.Proofs.YtjofbagaobdmoaaGreat.SrG
open Go.RowKit Go.Proofs.YtjofbagaobdmoaaGreat.Mem Go.Proofs.YtjofbagaobdmoaaGreat.DuA Go.Proofs.YtjofbagaobdmoaaGreat.SpA Go.Proofs.YtjofbagaobdmoaaGreat.SpB Go.Proofs.YtjofbagaobdmoaaGreat.SpC Go.Proofs.YtjofbagaobdmoaaGreat.SpD Go.Proofs.YtjofbagaobdmoaaGreat.SpH Go.Proofs.YtjofbagaobdmoaaGreat.SpI Go.Proofs.YtjofbagaobdmoaaGreat.SpK Go.Proofs.YtjofbagaobdmoaaGreat.SpN Go.Proofs.YtjofbagaobdmoaaGreat.SpZ Go.Proofs.YtjofbagaobdmoaaGreat.VaE

section
variable {K : Type} {lt : K → K → Bool}
theorem ins_perm (e : Int × K) : ∀ l : List (Int × K), (insL lt e l).Perm (e :: l)
  | [] => .refl _
  | y :: r => by
    unfold insL
    split
    · exact .refl _
    · exact ((ins_perm e r).cons y).trans (.swap ..)
/-- What is peeked at is all whose tick is reached, where so many may be. -/
theorem peek_all (now : Int) : ∀ {l : List (Int × K)} (m : Nat), Srt lt l → l.length ≤ m → l.take (peekN now l m) = l.filter (fun e => decide (e.1 ≤ now))
  | [], m, _, _ => by cases m <;> simp
  | e :: r, 0, _, h => by simp at h
  | e :: r, m + 1, hs, h => by
    have hr : Srt lt r := hs.behind 1
    have ih := peek_all now m hr (by simpa using h)
    unfold peekN
    by_cases he : e.1 ≤ now
    · rw [if_pos he, List.take_succ_cons, ih, List.filter_cons_of_pos (by simpa using he)]
    · rw [if_neg he, List.take_zero, List.filter_cons_of_neg (by simpa using he), eq_comm, List.filter_eq_nil_iff]
      intro x hx
      have := (List.pairwise_cons.1 hs.ord).1 x hx
      simp only [bef, Bool.or_eq_true, Bool.and_eq_true, decide_eq_true_eq] at this
      simp only [decide_eq_true_eq]
      omega
theorem dues_count {α : Type} (f : α → Int) (now : Int) : ∀ l : List (K × α), (duesOf lt f l).countP (fun e => decide (e.1 ≤ now)) = l.countP (fun e => overB (f e.2) now)
  | [] => rfl
  | e :: r => by
    have ih := dues_count f now r
    unfold duesOf
    rw [List.countP_cons]
    by_cases h : f e.2 = 0
    · rw [if_pos h, ih]; simp [overB, h]
    · rw [if_neg h, (ins_perm _ _).countP_eq, List.countP_cons, ih]; simp [overB, h]
end
def notO (now : Int) (e : BH) : Bool := !overB e.2.due now
/-- The ticks that are reached. -/
def reach (s : PS) (now : Int) : List (Int × ByteArray) := (duesOf lt PH.due s.l).filter (fun e => decide (e.1 ≤ now))
variable {s : PS}
theorem keep_is (hi : Inv s) (now : Int) {e : BH} (he : e ∈ s.l) : keepK s now e.1 = notO now e := by
  unfold keepK notO
  rw [(mem_getR DuB.linS hi.ris).2 he]; rfl
theorem keys_is (hi : Inv s) (now : Int) : keysP s now = (s.l.filter (notO now)).map (·.1) := by
  unfold keysP keysL
  rw [List.filter_map]
  congr 1
  exact List.filter_congr (fun e he => keep_is hi now he)
theorem stale_is (hi : Inv s) (now : Int) (h : s.l.length ≤ 1073741824) : peekL (duesOf lt PH.due s.l) now 1073741824 = (reach s now).map (·.2) := by
  unfold peekL reach
  have := peek_all (lt := lt) now 1073741824 (srt_of DuB.linS PH.due (hi.ris.nodup DuB.linS)) (Nat.le_trans (dues_len _ _) h)
  exact congrArg (List.map (·.2)) this
theorem all_len (hi : Inv s) (now : Int) : s.l.length = (keysP s now).length + (reach s now).length := by
  rw [keys_is hi, List.length_map, ← List.countP_eq_length_filter]
  unfold reach
  rw [← List.countP_eq_length_filter, dues_count, List.length_eq_countP_add_countP (notO now)]
  congr 1
  refine List.countP_congr (fun e _ => ?_)
  simp [notO]
/-- Which key that is seen stands there. -/
def rankN (s : PS) (now : Int) (i : Nat) : Nat := ((s.l.take i).filter (notO now)).length
theorem rank_step (now : Int) {i : Nat} {e : BH} (he : s.l[i]? = some e) : rankN s now (i + 1) = rankN s now i + (if notO now e then 1 else 0) := by
  unfold rankN
  rw [List.take_add_one, he, Option.toList_some, List.filter_append, List.length_append]
  by_cases h : notO now e <;> simp [h]
theorem rank_at (hi : Inv s) (now : Int) {i : Nat} {e : BH} (he : s.l[i]? = some e) (ho : notO now e = true) : (keysP s now)[rankN s now i]? = some e.1 := by
  obtain ⟨h1, h2⟩ := List.getElem?_eq_some_iff.1 he
  have hd : s.l = s.l.take i ++ e :: s.l.drop (i + 1) := by
    rw [← h2, ← List.drop_eq_getElem_cons h1, List.take_append_drop]
  rw [keys_is hi, List.getElem?_map]
  have : (s.l.filter (notO now))[rankN s now i]? = some e := by
    conv => lhs; arg 1; rw [hd]
    rw [List.filter_append, List.filter_cons_of_pos ho]
    unfold rankN
    rw [List.getElem?_append_right (Nat.le_refl _), Nat.sub_self]; rfl
  rw [this]; rfl
theorem rank_le (hi : Inv s) (now : Int) (i : Nat) : rankN s now i ≤ (keysP s now).length := by
  rw [keys_is hi, List.length_map]
  exact List.Sublist.length_le ((List.take_sublist i s.l).filter _)
/-- The tick of a key as told by the first so many. -/
def fnd (s : PS) (k : ByteArray) (j : Nat) : Int := ((getK (s.l.take j) k).map PH.due).getD 0
theorem get_app {l r : List BH} {k : ByteArray} : getK (l ++ r) k = (getK l k).or (getK r k) := by
  unfold getK
  rw [List.find?_append]
  cases List.find? _ l <;> simp
theorem fnd_eq (hi : Inv s) {j : Nat} {e : BH} (he : s.l[j]? = some e) : fnd s e.1 (j + 1) = e.2.due := by
  unfold fnd
  have hm : e ∈ s.l.take (j + 1) := by rw [List.take_add_one, he]; simp
  have hr : Ris lt (s.l.take (j + 1)) := hi.ris.sublist (List.take_sublist _ _)
  rw [(mem_getR DuB.linS hr).2 hm]; rfl
theorem fnd_ne {k : ByteArray} {j : Nat} {e : BH} (he : s.l[j]? = some e) (hn : e.1 ≠ k) : fnd s k (j + 1) = fnd s k j := by
  unfold fnd
  rw [List.take_add_one, he, Option.toList_some, get_app, get_cons, if_neg hn]
  simp [getK]
theorem fnd_zero (k : ByteArray) : fnd s k 0 = 0 := rfl
theorem dues_in {d : Int} {k : ByteArray} : ∀ {l : List BH}, (d, k) ∈ duesOf lt PH.due l → ∃ p, (k, p) ∈ l ∧ p.due = d ∧ d ≠ 0
  | [], h => by simp [duesOf] at h
  | e :: r, h => by
    unfold duesOf at h
    split at h
    · obtain ⟨p, h1, h2⟩ := dues_in h
      exact ⟨p, List.mem_cons_of_mem _ h1, h2⟩
    · rename_i hn
      rcases ins_mem.1 h with h | h
      · injection h with h1 h2
        subst h1 h2
        exact ⟨e.2, List.mem_cons_self .., rfl, hn⟩
      · obtain ⟨p, h1, h2⟩ := dues_in h
        exact ⟨p, List.mem_cons_of_mem _ h1, h2⟩
theorem reach_in (hi : Inv s) {now d : Int} {k : ByteArray} (h : (d, k) ∈ reach s now) : fnd s k s.l.length = d ∧ 1 ≤ d ∧ d ≤ now ∧ k.size ≤ 100000000 := by
  unfold reach at h
  obtain ⟨h1, h2⟩ := List.mem_filter.1 h
  obtain ⟨p, h3, h4, h5⟩ := dues_in h1
  have h6 := hi.due _ h3
  refine ⟨?_, by dsimp only at h6; omega, by simpa using h2, hi.key _ h3⟩
  unfold fnd
  rw [List.take_length, (mem_getR DuB.linS hi.ris).2 h3]
  exact h4
theorem reach_ord (hi : Inv s) {now : Int} {i : Nat} {x y : Int × ByteArray} (hx : (reach s now)[i]? = some x) (hy : (reach s now)[i + 1]? = some y) : x.1 ≤ y.1 ∧ (x.1 = y.1 → lt x.2 y.2 = true) := by
  have hs : (reach s now).Pairwise (fun a b => bef lt a b = true) := (srt_of DuB.linS PH.due (hi.ris.nodup DuB.linS)).ord.sublist List.filter_sublist
  obtain ⟨h1, rfl⟩ := List.getElem?_eq_some_iff.1 hx
  obtain ⟨h2, rfl⟩ := List.getElem?_eq_some_iff.1 hy
  have := List.pairwise_iff_getElem.1 hs i (i + 1) h1 h2 (Nat.lt_succ_self _)
  simp only [bef, Bool.or_eq_true, Bool.and_eq_true, decide_eq_true_eq] at this
  refine ⟨by omega, fun e => ?_⟩
  rcases this with h | h
  · omega
  · exact h.2
theorem ris_ord (hi : Inv s) {i : Nat} {x y : BH} (hx : s.l[i]? = some x) (hy : s.l[i + 1]? = some y) : lt x.1 y.1 = true := by
  obtain ⟨h1, rfl⟩ := List.getElem?_eq_some_iff.1 hx
  obtain ⟨h2, rfl⟩ := List.getElem?_eq_some_iff.1 hy
  exact List.pairwise_iff_getElem.1 hi.ris i (i + 1) h1 h2 (Nat.lt_succ_self _)
end Go.Proofs.YtjofbagaobdmoaaGreat.SrG
