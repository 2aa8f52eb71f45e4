/-
  A plain law: a list of texts, put in order without the ones that stand there already, is as long as it was just if no text stood there twice. Conditions: as stated.
-/
import Derived.Test.YtjofbagaobdmoaaGreatVaE
set_option linter.unusedSimpArgs false
set_option linter.unusedVariables false
namespace Go.Proofs.YtjofbagaobdmoaaGreat.VaK
open Go.RowKit Go.Proofs.YtjofbagaobdmoaaGreat.VaE

theorem bl_irrefl : ∀ x : List UInt8, Op.bytesLess x x = false
  | [] => rfl
  | a :: x => by simp [Op.bytesLess, bl_irrefl x]
theorem bl_trans : ∀ x y z : List UInt8, Op.bytesLess x y = true → Op.bytesLess y z = true → Op.bytesLess x z = true
  | _, _, [], _, h => by cases h' : ‹List UInt8› <;> simp_all [Op.bytesLess]
  | _, [], _ :: _, h, _ => by simp [Op.bytesLess] at h
  | [], _ :: _, _ :: _, _, _ => rfl
  | a :: x, b :: y, c :: z, h1, h2 => by
    simp only [Op.bytesLess, Bool.or_eq_true, decide_eq_true_eq, Bool.and_eq_true, beq_iff_eq] at h1 h2 ⊢
    rcases h1 with h1 | ⟨rfl, h1⟩
    · rcases h2 with h2 | ⟨rfl, h2⟩
      · exact .inl (UInt8.lt_trans h1 h2)
      · exact .inl h1
    · rcases h2 with h2 | ⟨rfl, h2⟩
      · exact .inl h2
      · exact .inr ⟨rfl, bl_trans x y z h1 h2⟩
theorem bl_total : ∀ x y : List UInt8, Op.bytesLess x y = false → x ≠ y → Op.bytesLess y x = true
  | [], [], _, h => absurd rfl h
  | _ :: _, [], _, _ => rfl
  | [], _ :: _, h, _ => by simp [Op.bytesLess] at h
  | a :: x, b :: y, h, hn => by
    simp only [Op.bytesLess, Bool.or_eq_false_iff, decide_eq_false_iff_not, Bool.or_eq_true, decide_eq_true_eq, Bool.and_eq_true, beq_iff_eq] at h ⊢
    by_cases e : a = b
    · subst e
      refine .inr ⟨rfl, bl_total x y ?_ (fun e => hn (by rw [e]))⟩
      have := h.2
      simpa using this
    · refine .inl ?_
      have h1 : ¬ a.toNat < b.toNat := h.1
      have h2 : a.toNat ≠ b.toNat := fun e' => e (UInt8.toNat_inj.1 e')
      exact UInt8.lt_iff_toNat_lt.2 (by omega)
theorem toL_inj {a b : ByteArray} (h : a.toList = b.toList) : a = b := by
  rw [ByteArray.toList_eq, ByteArray.toList_eq] at h
  cases a; cases b; simp_all
theorem lt_trans' {a b c : ByteArray} (h : ltS a b = true) (k : ltS b c = true) : ltS a c = true := bl_trans _ _ _ h k
theorem lt_irrefl' (a : ByteArray) : ltS a a = false := bl_irrefl _
theorem lt_total' {a b : ByteArray} (h : ltS a b = false) (hn : a ≠ b) : ltS b a = true := bl_total _ _ h (fun e => hn (toL_inj e))

def gtS (a b : ByteArray) : Bool := !(Op.bytesLess a.toList b.toList || a.toList == b.toList)
theorem gtS_iff {a b : ByteArray} : gtS a b = true ↔ ltS b a = true := by
  unfold gtS
  constructor
  · intro h
    simp only [Bool.not_eq_true', Bool.or_eq_false_iff, beq_eq_false_iff_ne] at h
    exact lt_total' h.1 (fun e => h.2 (by rw [e]))
  · intro h
    simp only [Bool.not_eq_true', Bool.or_eq_false_iff, beq_eq_false_iff_ne]
    refine ⟨?_, fun e => ?_⟩
    · cases hh : Op.bytesLess a.toList b.toList
      · rfl
      · have := lt_trans' (a := b) (b := a) (c := b) h hh
        rw [lt_irrefl'] at this; cases this
    · rw [toL_inj e, lt_irrefl'] at h; cases h

/-- The place of s, sought from place a down. -/
def posS (out : List ByteArray) (s : ByteArray) : Nat → Nat
  | 0 => 0
  | a + 1 => match out[a]? with
    | some e => if gtS e s then posS out s a else a + 1
    | none => a + 1
theorem posS_le (out : List ByteArray) (s : ByteArray) : ∀ a, posS out s a ≤ a
  | 0 => Nat.le_refl _
  | a + 1 => by
    unfold posS
    split
    · split
      · exact Nat.le_succ_of_le (posS_le out s a)
      · exact Nat.le_refl _
    · exact Nat.le_refl _
/-- All from the place on are greater; the one ahead of it is not. -/
theorem posS_spec (out : List ByteArray) (s : ByteArray) : ∀ a, a ≤ out.length → (∀ j e, posS out s a ≤ j → j < a → out[j]? = some e → ltS s e = true) ∧ (∀ e, 0 < posS out s a → out[posS out s a - 1]? = some e → gtS e s = false)
  | 0, _ => ⟨fun j e h1 h2 => by omega, fun e h => by simp [posS] at h⟩
  | a + 1, ha => by
    obtain ⟨x, hx⟩ : ∃ x, out[a]? = some x := ⟨_, List.getElem?_eq_getElem (by omega)⟩
    obtain ⟨h1, h2⟩ := posS_spec out s a (by omega)
    unfold posS
    rw [hx]
    dsimp only
    cases hg : gtS x s
    · simp only [Bool.false_eq_true, if_false]
      refine ⟨fun j e h h' => by omega, fun e _ he => ?_⟩
      rw [Nat.add_sub_cancel, hx] at he; injection he with he; subst he; exact hg
    · simp only [if_true]
      refine ⟨fun j e h h' he => ?_, h2⟩
      by_cases hj : j = a
      · subst hj; rw [hx] at he; injection he with he; subst he; exact gtS_iff.1 hg
      · exact h1 j e h (by omega) he
def atS (out : List ByteArray) (s : ByteArray) : Nat := posS out s out.length
/-- Does it stand just ahead of its place? -/
def hitS (out : List ByteArray) (s : ByteArray) : Bool := decide (0 < atS out s) && (match out[atS out s - 1]? with | some e => e.toList == s.toList | none => false)
def insS (out : List ByteArray) (s : ByteArray) : List ByteArray := if hitS out s then out else out.take (atS out s) ++ s :: out.drop (atS out s)
def ofL (l : List ByteArray) : List ByteArray := l.foldl insS []
def Ord (l : List ByteArray) : Prop := l.Pairwise (fun a b => ltS a b = true)

theorem hit_mem {out : List ByteArray} {s : ByteArray} (h : hitS out s = true) : s ∈ out := by
  unfold hitS at h
  rw [Bool.and_eq_true] at h
  cases he : out[atS out s - 1]? with
  | none => rw [he] at h; simp at h
  | some e => rw [he] at h; simp at h; rw [← toL_inj h.2]; exact List.mem_of_getElem? he
theorem mem_hit {out : List ByteArray} {s : ByteArray} (ho : Ord out) (h : s ∈ out) : hitS out s = true := by
  obtain ⟨i, hi, e⟩ := List.mem_iff_getElem.1 h
  obtain ⟨h1, h2⟩ := posS_spec out s out.length (Nat.le_refl _)
  have hle := posS_le out s out.length
  have hge : i < atS out s := by
    rcases Nat.lt_or_ge i (atS out s) with hlt | hge
    · exact hlt
    · have := h1 i s hge hi (by rw [List.getElem?_eq_getElem hi, e])
      rw [lt_irrefl'] at this; cases this
  have hat : atS out s - 1 < out.length := by unfold atS at hge ⊢; omega
  have h3 := h2 _ (by unfold atS at hge; omega) (List.getElem?_eq_getElem hat)
  unfold hitS
  rw [List.getElem?_eq_getElem hat]
  simp only [Bool.and_eq_true, decide_eq_true_eq, beq_iff_eq]
  refine ⟨by omega, ?_⟩
  by_cases hc : i = atS out s - 1
  · subst hc; rw [e]
  · exfalso
    have hlt := (List.pairwise_iff_getElem.1 ho) i (atS out s - 1) hi hat (by omega)
    rw [e] at hlt
    rw [gtS_iff.2 hlt] at h3; cases h3
theorem ins_len {out : List ByteArray} {s : ByteArray} : (insS out s).length = if hitS out s then out.length else out.length + 1 := by
  unfold insS
  have := posS_le out s out.length
  split
  · rfl
  · simp [atS]; omega
theorem ins_mem {out : List ByteArray} {s x : ByteArray} : x ∈ insS out s ↔ x ∈ out ∨ x = s := by
  unfold insS
  split
  · rename_i h
    exact ⟨.inl, fun h' => h'.elim id (fun e => e ▸ hit_mem h)⟩
  · rw [List.mem_append, List.mem_cons]
    conv => rhs; rw [← List.take_append_drop (atS out s) out, List.mem_append]
    constructor
    · rintro (h | h | h)
      · exact .inl (.inl h)
      · exact .inr h
      · exact .inl (.inr h)
    · rintro ((h | h) | h)
      · exact .inl h
      · exact .inr (.inr h)
      · exact .inr (.inl h)
theorem ins_ord {out : List ByteArray} {s : ByteArray} (ho : Ord out) : Ord (insS out s) := by
  unfold insS
  split
  · exact ho
  · rename_i hh
    obtain ⟨h1, h2⟩ := posS_spec out s out.length (Nat.le_refl _)
    have hle := posS_le out s out.length
    have hlo : ∀ a ∈ out.take (atS out s), ltS a s = true := fun a ha => by
      obtain ⟨i, hi, e⟩ := List.mem_iff_getElem.1 ha
      rw [List.length_take] at hi
      have hat : atS out s - 1 < out.length := by unfold atS at hi ⊢; omega
      have h3 := h2 _ (by unfold atS at hi; omega) (List.getElem?_eq_getElem hat)
      have hl : ltS out[atS out s - 1] s = true := by
        have hne : out[atS out s - 1] ≠ s := fun e' => hh (mem_hit ho (e' ▸ List.getElem_mem _))
        cases hc : ltS out[atS out s - 1] s
        · have h5 : gtS out[atS out s - 1] s = false := h3
          rw [gtS_iff.2 (lt_total' hc hne)] at h5; cases h5
        · rfl
      rw [List.getElem_take] at e
      by_cases hc : i = atS out s - 1
      · subst hc; rw [← e]; exact hl
      · have := (List.pairwise_iff_getElem.1 ho) i (atS out s - 1) (by omega) hat (by omega)
        rw [← e]; exact lt_trans' this hl
    have hhi : ∀ a ∈ out.drop (atS out s), ltS s a = true := fun a ha => by
      obtain ⟨i, hi, e⟩ := List.mem_iff_getElem.1 ha
      rw [List.length_drop] at hi
      rw [List.getElem_drop] at e
      exact h1 (atS out s + i) a (Nat.le_add_right _ _) (by omega) (by rw [List.getElem?_eq_getElem (by omega), e])
    unfold Ord
    rw [List.pairwise_append, List.pairwise_cons]
    have hp : (out.take (atS out s) ++ out.drop (atS out s)).Pairwise (fun a b => ltS a b = true) := by rw [List.take_append_drop]; exact ho
    rw [List.pairwise_append] at hp
    refine ⟨hp.1, ⟨hhi, hp.2.1⟩, fun a ha b hb => ?_⟩
    rcases List.mem_cons.1 hb with rfl | hb
    · exact hlo a ha
    · exact hp.2.2 a ha b hb
theorem of_snoc (l : List ByteArray) (s : ByteArray) : ofL (l ++ [s]) = insS (ofL l) s := by simp [ofL]
theorem of_facts' (r : List ByteArray) : Ord (ofL r.reverse) ∧ (∀ x, x ∈ ofL r.reverse ↔ x ∈ r.reverse) ∧ (ofL r.reverse).length ≤ r.reverse.length ∧ ((ofL r.reverse).length = r.reverse.length ↔ r.reverse.Nodup) := by
  induction r with
  | nil => exact ⟨List.Pairwise.nil, fun x => by simp [ofL], Nat.le_refl _, by simp [ofL]⟩
  | cons s r ih =>
    rw [List.reverse_cons]
    generalize r.reverse = l at ih ⊢
    obtain ⟨h1, h2, h3, h4⟩ := ih
    rw [of_snoc]
    refine ⟨ins_ord h1, fun x => by rw [ins_mem, h2]; simp, ?_, ?_⟩
    · rw [ins_len]; split <;> simp <;> omega
    · rw [ins_len, List.length_append, List.length_singleton, List.nodup_append]
      by_cases hm : s ∈ l
      · rw [if_pos (mem_hit h1 ((h2 s).2 hm))]
        constructor
        · intro h; omega
        · rintro ⟨_, _, h⟩; exact absurd rfl (h s hm s (by simp))
      · rw [if_neg (fun h => hm ((h2 s).1 (hit_mem h)))]
        constructor
        · intro h
          exact ⟨h4.1 (by omega), by simp, fun a ha b hb => by simp at hb; subst hb; exact fun e => hm (e ▸ ha)⟩
        · rintro ⟨h, _, _⟩; rw [h4.2 h]
theorem of_facts (l : List ByteArray) : Ord (ofL l) ∧ (∀ x, x ∈ ofL l ↔ x ∈ l) ∧ (ofL l).length ≤ l.length ∧ ((ofL l).length = l.length ↔ l.Nodup) := by
  have := of_facts' l.reverse
  rwa [List.reverse_reverse] at this
end Go.Proofs.YtjofbagaobdmoaaGreat.VaK
