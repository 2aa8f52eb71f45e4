/-
  append of one element of two cells; more plain laws of lists in order. Conditions: as stated.
-/
import Derived.Test.YtabgngdimbflkaaDuB
set_option linter.unusedSimpArgs false
set_option linter.unusedVariables false
namespace Go.Proofs.Ytabgngdimbflkaa.DuO
open Go Go.RowKit Go.Proofs.Ytabgngdimbflkaa.Mem Go.Proofs.Ytabgngdimbflkaa.DuA Go.Proofs.Ytabgngdimbflkaa.DuM

theorem two_rd (w : World) (u1 u2 : Value) (e : TypeId) : Rd (w.alloc (.cells #[u1, u2] e)) 2 (some ⟨w.heap.size, 0, none⟩) 1 1 [u1, u2] := by
  refine ⟨rfl, Nat.le_refl _, by unfold maxLen; omega, fun j x hj => ⟨_, rfl, ?_⟩⟩
  rw [add_mk]
  have h := heap_alloc_new w (.cells #[u1, u2] e)
  unfold World.cell?
  simp only [h]
  match j, hj with
  | 0, hj => exact hj
  | 1, hj => exact hj
  | j + 2, hj => simp at hj
theorem wpList_app2b {P : Program} {t e : TypeId} {z : Value} {bytes : Nat} {ops : Array Oper} {rest : List Oper} {o : Oper} {a : Act} {Q : Exit → Act → World → Prop} {w : World} (hgd : o.guard = none) (s x : Operand)
    (E : El P t e z 2 bytes) (ho : o.op = .call { callee := .builtin .append, args := #[s, x], argTypes := #[t, t] })
    (B : Nat) (v : Value) (n : Nat) (xs : List Value) (hs : a.eval s = v) (hown : w.ownsRow B e 2 v n xs)
    (u1 u2 : Value) (hu1 : u1.oneCell' = true) (hu2 : u2.oneCell' = true) (b : Nat) (hb : b = w.heap.size) (hx : a.eval x = .slice (some ⟨b, 0, none⟩) 1 1)
    (h63 : n + 1 ≤ maxLen) (hbytes : (n + 1) * bytes ≤ 140737488355328) (hB : B ≤ w.heap.size)
    (h : ∀ v' w', w'.ownsRow B e 2 v' (n + 1) (xs ++ [u1, u2]) → Only (fun k => v.ownBlock = some k) w w' → (v'.ownBlock = v.ownBlock ∨ ∃ k, v'.ownBlock = some k ∧ w.heap.size ≤ k) → wpList P ops Q rest (a.put o.dst v') w') :
    wpList P ops Q (o :: rest) a (w.alloc (.cells #[u1, u2] e)) := by
  subst hb
  refine wpList_app hgd s x E ho B v n xs hs (hown.alloc _) (some ⟨w.heap.size, 0, none⟩) 1 1 [u1, u2] hx (two_rd w u1 u2 e) (fun y hy => by simp at hy; rcases hy with rfl | rfl <;> assumption) h63 hbytes (by simp; omega) ?_
  intro v' w' h2 h3 h4
  refine h v' w' h2 (((Only.refl _ w).alloc _).trans h3 fun b hb => .inl hb) ?_
  rcases h4 with h4 | h4
  · exact .inl h4
  · exact .inr ⟨_, h4, by simp⟩
section
variable {K : Type} {lt : K → K → Bool}
theorem ins_yes {e : Int × K} : ∀ {a : List (Int × K)} (b : List (Int × K)), (∃ y ∈ a, bef lt e y = true) → insL lt e (a ++ b) = insL lt e a ++ b
  | [], b, h => by obtain ⟨y, h, _⟩ := h; cases h
  | y :: r, b, h => by
    show (if bef lt e y then e :: y :: (r ++ b) else y :: insL lt e (r ++ b)) = (if bef lt e y then e :: y :: r else y :: insL lt e r) ++ b
    by_cases hb : bef lt e y = true
    · rw [if_pos hb, if_pos hb]; rfl
    · rw [if_neg hb, if_neg hb]
      obtain ⟨z, hz, hzb⟩ := h
      rcases List.mem_cons.1 hz with rfl | hz
      · exact absurd hzb hb
      · rw [ins_yes b ⟨z, hz, hzb⟩]; rfl
theorem ins_no {e : Int × K} : ∀ {a : List (Int × K)} (b : List (Int × K)), (∀ y ∈ a, bef lt e y = false) → insL lt e (a ++ b) = a ++ insL lt e b
  | [], b, h => rfl
  | y :: r, b, h => by
    have hy : ¬ bef lt e y = true := by rw [h y List.mem_cons_self]; simp
    show insL lt e (y :: (r ++ b)) = _
    rw [insL, if_neg hy, ins_no b (fun z hz => h z (List.mem_cons_of_mem _ hz))]; rfl
theorem drop_take [DecidableEq K] {l : List (Int × K)} {i : Nat} {e : Int × K} (h : l[i]? = some e) (k : K) : dropL (l.take (i + 1)) k = dropL (l.take i) k ++ (if e.2 = k then [] else [e]) := by
  rw [List.take_add_one, h]
  unfold dropL
  rw [List.filter_append]
  congr 1
  by_cases hk : e.2 = k <;> simp [hk]
theorem drop_lt [DecidableEq K] (l : List (Int × K)) (k : K) : decide ((dropL l k).length < l.length) = (dueL l k).isSome := by
  cases hd : dueL l k with
  | none => rw [drop_id (due_none.1 hd)]; simp
  | some t =>
    have hm : k ∈ l.map (·.2) := by
      rcases Decidable.em (k ∈ l.map (·.2)) with h | h
      · exact h
      · rw [due_none.2 h] at hd; cases hd
    obtain ⟨e, he, hk⟩ := List.mem_map.1 hm
    have h2 : (dropL l k).length < l.length := by
      unfold dropL
      rw [List.length_filter_lt_length_iff_exists]
      exact ⟨e, he, by simp [hk]⟩
    simp [h2]
theorem due_at [DecidableEq K] {l : List (Int × K)} {i : Nat} {e : Int × K} {k : K} (h : l[i]? = some e) (hn : ∀ j y, j < i → l[j]? = some y → y.2 ≠ k) (hk : e.2 = k) : dueL l k = some e.1 := by
  obtain ⟨hi, hie⟩ := List.getElem?_eq_some_iff.1 h
  have e1 : l = l.take i ++ e :: l.drop (i + 1) := by rw [← hie, ← List.drop_eq_getElem_cons hi, List.take_append_drop]
  unfold dueL
  generalize hd : l.drop (i + 1) = d at e1
  generalize ht : l.take i = tk at e1
  rw [e1, List.find?_append, ← ht]
  have e2 : (l.take i).find? (fun e => decide (e.2 = k)) = none := by
    rw [List.find?_eq_none]
    intro x hx
    obtain ⟨j, hj, rfl⟩ := List.mem_iff_getElem.1 hx
    rw [List.length_take] at hj
    have := hn j _ (by omega) (List.getElem?_eq_getElem (by omega))
    rw [List.getElem_take]
    simpa using this
  rw [e2]
  simp [hk]
theorem due_not [DecidableEq K] {l : List (Int × K)} {k : K} (hn : ∀ j y, j < l.length → l[j]? = some y → y.2 ≠ k) : dueL l k = none := by
  rw [due_none]
  intro hm
  obtain ⟨e, he, hk⟩ := List.mem_map.1 hm
  obtain ⟨j, hj, rfl⟩ := List.mem_iff_getElem.1 he
  exact hn j _ hj (List.getElem?_eq_getElem hj) hk
end
end Go.Proofs.Ytabgngdimbflkaa.DuO
