/-
  Plain laws of a list of (tick, key) in order: no program in sight. Conditions: as stated.
-/
import Derived.WalkKit
set_option linter.unusedSimpArgs false
set_option linter.unusedVariables false
namespace Go.Proofs.YtjofbagaobdmoaaGreat.DuA

/-- A strict order of keys. -/
structure Lin {K : Type} (lt : K → K → Bool) : Prop where
  irr : ∀ a, lt a a = false
  tr : ∀ {a b c}, lt a b = true → lt b c = true → lt a c = true
  tot : ∀ {a b}, lt a b = false → a ≠ b → lt b a = true

section
variable {K : Type} (lt : K → K → Bool)
/-- By tick, then by key. -/
def bef (a b : Int × K) : Bool := decide (a.1 < b.1) || (decide (a.1 = b.1) && lt a.2 b.2)
/-- In order, each key once. -/
structure Srt (l : List (Int × K)) : Prop where
  ord : l.Pairwise (fun a b => bef lt a b = true)
  one : (l.map (·.2)).Nodup
def dropL [DecidableEq K] (l : List (Int × K)) (k : K) : List (Int × K) := l.filter (fun e => decide (e.2 ≠ k))
def insL (e : Int × K) : List (Int × K) → List (Int × K)
  | [] => [e]
  | y :: r => if bef lt e y then e :: y :: r else y :: insL e r
def dueL [DecidableEq K] (l : List (Int × K)) (k : K) : Option Int := (l.find? (fun e => decide (e.2 = k))).map (·.1)
/-- How many stand ahead of e. -/
def posL (l : List (Int × K)) (e : Int × K) : Nat := l.countP (fun x => bef lt x e)
def peekN (now : Int) : List (Int × K) → Nat → Nat
  | e :: r, m + 1 => if e.1 ≤ now then peekN now r m + 1 else 0
  | _, _ => 0
variable {lt}

theorem bef_irr (h : Lin lt) (a : Int × K) : bef lt a a = false := by
  simp [bef, h.irr]
theorem bef_tr (h : Lin lt) {a b c : Int × K} (h1 : bef lt a b = true) (h2 : bef lt b c = true) : bef lt a c = true := by
  simp only [bef, Bool.or_eq_true, Bool.and_eq_true, decide_eq_true_eq] at h1 h2 ⊢
  rcases h1 with h1 | ⟨h1, g1⟩ <;> rcases h2 with h2 | ⟨h2, g2⟩
  · exact .inl (by omega)
  · exact .inl (by omega)
  · exact .inl (by omega)
  · exact .inr ⟨by omega, h.tr g1 g2⟩
theorem bef_tot (h : Lin lt) {a b : Int × K} (h1 : bef lt a b = false) (hn : a ≠ b) : bef lt b a = true := by
  obtain ⟨t, k⟩ := a
  obtain ⟨t', k'⟩ := b
  simp only [bef, Bool.or_eq_false_iff, Bool.and_eq_false_imp, decide_eq_false_iff_not, decide_eq_true_eq, Bool.or_eq_true, Bool.and_eq_true] at h1 ⊢
  by_cases ht : t = t'
  · subst ht
    refine .inr ⟨rfl, h.tot (h1.2 rfl) (fun e => hn (by rw [e]))⟩
  · exact .inl (by omega)
theorem bef_asym (h : Lin lt) {a b : Int × K} (h1 : bef lt a b = true) : bef lt b a = false := by
  cases hc : bef lt b a
  · rfl
  · have := bef_tr h h1 hc
    rw [bef_irr h] at this
    cases this

theorem Srt.nil : Srt lt ([] : List (Int × K)) := ⟨.nil, by simp⟩
theorem Srt.drop [DecidableEq K] {l : List (Int × K)} (h : Srt lt l) (k : K) : Srt lt (dropL l k) :=
  ⟨h.ord.filter _, (List.Nodup.sublist (List.filter_sublist.map _) h.one)⟩
theorem Srt.behind {l : List (Int × K)} (h : Srt lt l) (n : Nat) : Srt lt (l.drop n) :=
  ⟨h.ord.sublist (List.drop_sublist n l), List.Nodup.sublist ((List.drop_sublist n l).map _) h.one⟩
theorem drop_not_mem [DecidableEq K] (l : List (Int × K)) (k : K) : k ∉ (dropL l k).map (·.2) := by
  intro h
  obtain ⟨e, he, rfl⟩ := List.mem_map.1 h
  have := (List.mem_filter.1 he).2
  simp at this
theorem drop_id [DecidableEq K] {l : List (Int × K)} {k : K} (h : k ∉ l.map (·.2)) : dropL l k = l := by
  unfold dropL
  rw [List.filter_eq_self]
  intro e he
  exact decide_eq_true (fun e' => h (e' ▸ List.mem_map_of_mem he))
theorem drop_len [DecidableEq K] (l : List (Int × K)) (k : K) : (dropL l k).length ≤ l.length := List.length_filter_le _ _

theorem due_none [DecidableEq K] {l : List (Int × K)} {k : K} : dueL l k = none ↔ k ∉ l.map (·.2) := by
  unfold dueL
  rw [Option.map_eq_none_iff, List.find?_eq_none]
  simp only [decide_eq_true_eq, List.mem_map, not_exists, not_and]
theorem due_some [DecidableEq K] {l : List (Int × K)} (hn : (l.map (·.2)).Nodup) {k : K} {t : Int} : dueL l k = some t ↔ (t, k) ∈ l := by
  induction l with
  | nil => simp [dueL]
  | cons y r ih =>
    obtain ⟨t', k'⟩ := y
    rw [List.map_cons, List.nodup_cons] at hn
    unfold dueL at ih ⊢
    by_cases hk : k' = k
    · subst hk
      simp only [List.find?_cons, decide_true, Option.map_some, Option.some.injEq, List.mem_cons, Prod.mk.injEq, and_true]
      constructor
      · exact fun h => .inl h.symm
      · rintro (h | h)
        · exact h.symm
        · exact absurd (List.mem_map_of_mem (f := fun e : Int × K => e.2) h) hn.1
    · simp only [List.find?_cons, hk, decide_false, List.mem_cons, Prod.mk.injEq]
      rw [ih hn.2]
      constructor
      · exact fun h => .inr h
      · rintro (h | h)
        · exact absurd h.2.symm hk
        · exact h
/-- The place at which it stands. -/
theorem pos_at [DecidableEq K] (h : Lin lt) : ∀ {l : List (Int × K)} {e : Int × K}, Srt lt l → e ∈ l → l[posL lt l e]? = some e ∧ dropL l e.2 = l.take (posL lt l e) ++ l.drop (posL lt l e + 1)
  | y :: r, e, hs, hm => by
    have ho := List.pairwise_cons.1 hs.ord
    have hn := hs.one
    rw [List.map_cons, List.nodup_cons] at hn
    rcases List.mem_cons.1 hm with rfl | hm
    · have h0 : posL lt (e :: r) e = 0 := by
        unfold posL
        rw [List.countP_eq_zero]
        intro x hx
        rcases List.mem_cons.1 hx with rfl | hx
        · simp [bef_irr h]
        · simp [bef_asym h (ho.1 x hx)]
      rw [h0]
      refine ⟨rfl, ?_⟩
      have : dropL (e :: r) e.2 = dropL r e.2 := by unfold dropL; rw [List.filter_cons_of_neg (by simp)]
      rw [this, drop_id hn.1]
      simp
    · have hb := ho.1 e hm
      have h1 : posL lt (y :: r) e = posL lt r e + 1 := by unfold posL; rw [List.countP_cons_of_pos (p := fun x => bef lt x e) hb]
      obtain ⟨i1, i2⟩ := pos_at h (l := r) (e := e) ⟨ho.2, hn.2⟩ hm
      rw [h1]
      refine ⟨by simpa using i1, ?_⟩
      have hne : y.2 ≠ e.2 := fun e' => hn.1 (e' ▸ List.mem_map_of_mem hm)
      have : dropL (y :: r) e.2 = y :: dropL r e.2 := by unfold dropL; rw [List.filter_cons_of_pos (by simpa using hne)]
      rw [this, i2]
      simp
theorem pos_le (l : List (Int × K)) (e : Int × K) : posL lt l e ≤ l.length := List.countP_le_length
/-- Where it goes. -/
theorem ins_at (h : Lin lt) : ∀ {l : List (Int × K)} {e : Int × K}, Srt lt l → e ∉ l → insL lt e l = l.take (posL lt l e) ++ e :: l.drop (posL lt l e)
  | [], e, _, _ => rfl
  | y :: r, e, hs, hm => by
    have ho := List.pairwise_cons.1 hs.ord
    have hn := hs.one
    rw [List.map_cons, List.nodup_cons] at hn
    unfold insL
    by_cases hb : bef lt e y = true
    · rw [if_pos hb]
      have h0 : posL lt (y :: r) e = 0 := by
        unfold posL
        rw [List.countP_eq_zero]
        intro x hx
        rcases List.mem_cons.1 hx with rfl | hx
        · simp [bef_asym h hb]
        · simp [bef_asym h (bef_tr h hb (ho.1 x hx))]
      rw [h0]
      simp
    · rw [if_neg hb]
      have hb' := bef_tot h (by simpa using hb) (fun e' => hm (by rw [e']; exact List.mem_cons_self))
      have h1 : posL lt (y :: r) e = posL lt r e + 1 := by unfold posL; rw [List.countP_cons_of_pos (p := fun x => bef lt x e) hb']
      rw [h1, ins_at h ⟨ho.2, hn.2⟩ (fun hx => hm (List.mem_cons_of_mem _ hx))]
      simp
theorem ins_mem {e x : Int × K} : ∀ {l : List (Int × K)}, x ∈ insL lt e l ↔ x = e ∨ x ∈ l
  | [] => by simp [insL]
  | y :: r => by
    unfold insL
    split
    · simp
    · rw [List.mem_cons, ins_mem, List.mem_cons]
      constructor
      · rintro (h | h | h)
        · exact .inr (.inl h)
        · exact .inl h
        · exact .inr (.inr h)
      · rintro (h | h | h)
        · exact .inr (.inl h)
        · exact .inl h
        · exact .inr (.inr h)
theorem ins_len (e : Int × K) : ∀ l : List (Int × K), (insL lt e l).length = l.length + 1
  | [] => rfl
  | y :: r => by unfold insL; split <;> simp [ins_len]
theorem Srt.ins (h : Lin lt) {e : Int × K} : ∀ {l : List (Int × K)}, Srt lt l → e.2 ∉ l.map (·.2) → Srt lt (insL lt e l)
  | [], _, _ => ⟨by simp [insL], by simp [insL]⟩
  | y :: r, hs, hm => by
    have ho := List.pairwise_cons.1 hs.ord
    have hn := hs.one
    have hm' := hm
    rw [List.map_cons, List.nodup_cons] at hn
    rw [List.map_cons, List.mem_cons, not_or] at hm
    unfold insL
    split
    case isTrue hb =>
      refine ⟨List.pairwise_cons.2 ⟨fun x hx => ?_, hs.ord⟩, by rw [List.map_cons, List.nodup_cons]; exact ⟨hm', hs.one⟩⟩
      rcases List.mem_cons.1 hx with rfl | hx
      · exact hb
      · exact bef_tr h hb (ho.1 x hx)
    case isFalse hb =>
      have hb' := bef_tot h (by simpa using hb) (fun e' => hm.1 (by rw [e']))
      have ih := Srt.ins h (e := e) (l := r) ⟨ho.2, hn.2⟩ hm.2
      refine ⟨List.pairwise_cons.2 ⟨fun x hx => ?_, ih.ord⟩, ?_⟩
      · rcases ins_mem.1 hx with rfl | hx
        · exact hb'
        · exact ho.1 x hx
      · rw [List.map_cons, List.nodup_cons]
        refine ⟨fun hx => ?_, ih.one⟩
        obtain ⟨z, hz, e'⟩ := List.mem_map.1 hx
        rcases ins_mem.1 hz with rfl | hz
        · exact hm.1 e'
        · exact hn.1 (e' ▸ List.mem_map_of_mem hz)
/-- The document's placing: by one test a step. -/
theorem due_ins [DecidableEq K] (h : Lin lt) {l : List (Int × K)} {e : Int × K} (hs : Srt lt l) (hm : e.2 ∉ l.map (·.2)) (k : K) : dueL (insL lt e l) k = if k = e.2 then some e.1 else dueL l k := by
  have hi := hs.ins h hm
  by_cases hk : k = e.2
  · rw [if_pos hk, due_some hi.one, ins_mem]
    exact .inl (by rw [hk])
  · rw [if_neg hk]
    cases hd : dueL l k with
    | none =>
      rw [due_none] at hd ⊢
      intro hx
      obtain ⟨z, hz, e'⟩ := List.mem_map.1 hx
      rcases ins_mem.1 hz with rfl | hz
      · exact hk e'.symm
      · exact hd (e' ▸ List.mem_map_of_mem hz)
    | some t =>
      rw [due_some hs.one] at hd
      rw [due_some hi.one, ins_mem]
      exact .inr hd
theorem due_drop [DecidableEq K] {l : List (Int × K)} (hn : (l.map (·.2)).Nodup) (k k' : K) : dueL (dropL l k) k' = if k' = k then none else dueL l k' := by
  have hn' : ((dropL l k).map (·.2)).Nodup := List.Nodup.sublist (List.filter_sublist.map _) hn
  by_cases hk : k' = k
  · rw [if_pos hk, due_none, hk]
    exact drop_not_mem l k
  · rw [if_neg hk]
    cases hd : dueL l k' with
    | none =>
      rw [due_none] at hd ⊢
      intro hx
      obtain ⟨z, hz, e'⟩ := List.mem_map.1 hx
      exact hd (e' ▸ List.mem_map_of_mem (List.mem_filter.1 hz).1)
    | some t =>
      rw [due_some hn] at hd
      rw [due_some hn']
      exact List.mem_filter.2 ⟨hd, by simpa using hk⟩
/-- Out of the front: one by one is at once. -/
theorem drop_front [DecidableEq K] {l : List (Int × K)} (hn : (l.map (·.2)).Nodup) : ∀ m, m ≤ l.length → ((l.take m).map (·.2)).foldl dropL l = l.drop m := by
  suffices H : ∀ (l : List (Int × K)) (m : Nat), (l.map (·.2)).Nodup → m ≤ l.length → ((l.take m).map (·.2)).foldl dropL l = l.drop m from fun m hm => H l m hn hm
  intro l
  induction l with
  | nil => intro m _ _; simp
  | cons y r ih =>
    intro m hn hm
    cases m with
    | zero => rfl
    | succ m =>
      rw [List.map_cons, List.nodup_cons] at hn
      have e1 : dropL (y :: r) y.2 = r := by
        have : dropL (y :: r) y.2 = dropL r y.2 := by unfold dropL; rw [List.filter_cons_of_neg (by simp)]
        rw [this, drop_id hn.1]
      rw [List.take_succ_cons, List.map_cons, List.foldl_cons, e1, List.drop_succ_cons]
      exact ih m hn.2 (by simpa using hm)
theorem drop_head [DecidableEq K] {l : List (Int × K)} {e : Int × K} {r : List (Int × K)} (hl : l = e :: r) (hn : (l.map (·.2)).Nodup) : dropL l e.2 = r := by
  subst hl
  rw [List.map_cons, List.nodup_cons] at hn
  have : dropL (e :: r) e.2 = dropL r e.2 := by unfold dropL; rw [List.filter_cons_of_neg (by simp)]
  rw [this, drop_id hn.1]
theorem peek_le (now : Int) : ∀ (l : List (Int × K)) (m : Nat), peekN now l m ≤ l.length ∧ peekN now l m ≤ m
  | [], m => by cases m <;> simp [peekN]
  | e :: r, 0 => by simp [peekN]
  | e :: r, m + 1 => by
    have := peek_le now r m
    unfold peekN
    split
    · simp; omega
    · simp
theorem peek_go (now : Int) {l : List (Int × K)} {i m : Nat} {e : Int × K} (h : l[i]? = some e) (h1 : e.1 ≤ now) (h2 : i < m) : peekN now (l.drop i) (m - i) = peekN now (l.drop (i + 1)) (m - (i + 1)) + 1 := by
  obtain ⟨hi, rfl⟩ := List.getElem?_eq_some_iff.1 h
  rw [List.drop_eq_getElem_cons hi, show m - i = (m - (i + 1)) + 1 by omega]
  simp only [peekN]
  rw [if_pos h1]
theorem peek_stop (now : Int) {l : List (Int × K)} {i m : Nat} {e : Int × K} (h : l[i]? = some e) (h1 : now < e.1 ∨ m ≤ i) : peekN now (l.drop i) (m - i) = 0 := by
  obtain ⟨hi, rfl⟩ := List.getElem?_eq_some_iff.1 h
  rw [List.drop_eq_getElem_cons hi]
  rcases Nat.eq_zero_or_pos (m - i) with h0 | h0
  · rw [h0]; rfl
  · obtain ⟨k, hk⟩ : ∃ k, m - i = k + 1 := ⟨m - i - 1, by omega⟩
    rw [hk]
    simp only [peekN]
    rw [if_neg (by omega)]
theorem peek_end (now : Int) (l : List (Int × K)) (m : Nat) : peekN now (l.drop l.length) m = 0 := by simp [peekN]
/-- The first so many keys whose tick is not above now. -/
def peekL (l : List (Int × K)) (now most : Int) : List K := (l.take (peekN now l most.toNat)).map (·.2)
theorem peekL_len (l : List (Int × K)) (now most : Int) : (peekL l now most).length = peekN now l most.toNat := by
  have := (peek_le now l most.toNat).1
  simp [peekL]; omega
/-- The rest. -/
def takeL (l : List (Int × K)) (now most : Int) : List (Int × K) := l.drop (peekN now l most.toNat)
end
end Go.Proofs.YtjofbagaobdmoaaGreat.DuA
