/-
  Plain law: fields in a rising list. Conditions: as stated.
-/
import Derived.WalkKit
import Derived.Lib.ConvBytes
set_option linter.unusedSimpArgs false
set_option linter.unusedVariables false
namespace Go.Proofs.YthgdkmbcibfehaaDoor.DcA

theorem bl_irrefl : ∀ x : List UInt8, Op.bytesLess x x = false
  | [] => rfl
  | a :: x => by simp [Op.bytesLess, bl_irrefl x]
theorem bl_trans : ∀ x y z : List UInt8, Op.bytesLess x y = true → Op.bytesLess y z = true → Op.bytesLess x z = true
  | _, _, [], _, h => by cases h' : ‹List UInt8› <;> simp_all [Op.bytesLess]
  | _, [], _ :: _, h, _ => by simp [Op.bytesLess] at h
  | [], _ :: _, _ :: _, _, _ => rfl
  | a :: x, b :: y, c :: z, h1, h2 => by
    simp only [Op.bytesLess, Bool.or_eq_true, decide_eq_true_eq, Bool.and_eq_true, beq_iff_eq] at h1 h2 ⊢
    rcases h1 with h1 | ⟨rfl, h1⟩
    · rcases h2 with h2 | ⟨rfl, h2⟩
      · exact .inl (UInt8.lt_trans h1 h2)
      · exact .inl h1
    · rcases h2 with h2 | ⟨rfl, h2⟩
      · exact .inl h2
      · exact .inr ⟨rfl, bl_trans x y z h1 h2⟩
theorem bl_total : ∀ x y : List UInt8, Op.bytesLess x y = false → x ≠ y → Op.bytesLess y x = true
  | [], [], _, h => absurd rfl h
  | _ :: _, [], _, _ => rfl
  | [], _ :: _, h, _ => by simp [Op.bytesLess] at h
  | a :: x, b :: y, h, hn => by
    simp only [Op.bytesLess, Bool.or_eq_false_iff, decide_eq_false_iff_not, Bool.or_eq_true, decide_eq_true_eq, Bool.and_eq_true, beq_iff_eq] at h ⊢
    by_cases e : a = b
    · subst e
      refine .inr ⟨rfl, bl_total x y ?_ (fun e => hn (by rw [e]))⟩
      have := h.2
      simpa using this
    · refine .inl ?_
      have h1 : ¬ a.toNat < b.toNat := h.1
      have h2 : a.toNat ≠ b.toNat := fun e' => e (UInt8.toNat_inj.1 e')
      exact UInt8.lt_iff_toNat_lt.2 (by omega)
theorem toL_inj {a b : ByteArray} (h : a.toList = b.toList) : a = b := by
  rw [ByteArray.toList_eq, ByteArray.toList_eq] at h
  cases a; cases b; simp_all
def ltS (a b : ByteArray) : Bool := Op.bytesLess a.toList b.toList
theorem lt_irr (a : ByteArray) : ltS a a = false := bl_irrefl _
theorem lt_tr {a b c : ByteArray} (h : ltS a b = true) (k : ltS b c = true) : ltS a c = true := bl_trans _ _ _ h k
theorem lt_tot {a b : ByteArray} (h : ltS a b = false) (hn : a ≠ b) : ltS b a = true := bl_total _ _ h (fun e => hn (toL_inj e))
theorem lt_asym {a b : ByteArray} (h : ltS a b = true) : ltS b a = false := by
  cases h2 : ltS b a
  · rfl
  · have := lt_tr h h2; rw [lt_irr] at this; cases this
theorem lt_ne {a b : ByteArray} (h : ltS a b = true) : a ≠ b := fun e => by rw [e, lt_irr] at h; cases h
abbrev Fld := ByteArray × ByteArray
/-- The names rise. -/
def Ris (l : List Fld) : Prop := l.Pairwise fun a b => ltS a.1 b.1 = true
def getL : List Fld → ByteArray → Option ByteArray
  | [], _ => none
  | f :: r, k => if f.1 = k then some f.2 else getL r k
def setL : List Fld → ByteArray → ByteArray → List Fld
  | [], k, v => [(k, v)]
  | f :: r, k, v => if f.1 = k then (k, v) :: r else if ltS k f.1 then (k, v) :: f :: r else f :: setL r k v
def dropL : List Fld → ByteArray → List Fld
  | [], _ => []
  | f :: r, k => if f.1 = k then r else f :: dropL r k
/-- How many names stand below. -/
def posL : List Fld → ByteArray → Nat
  | [], _ => 0
  | f :: r, k => if ltS f.1 k then posL r k + 1 else 0
theorem ris_cons {f : Fld} {r : List Fld} : Ris (f :: r) ↔ (∀ g ∈ r, ltS f.1 g.1 = true) ∧ Ris r := List.pairwise_cons
theorem get_none_lt {l : List Fld} {k : ByteArray} (h : ∀ g ∈ l, ltS k g.1 = true) : getL l k = none := by
  induction l with
  | nil => rfl
  | cons f r ih =>
    unfold getL
    rw [if_neg (fun e => lt_ne (h f (by simp)) e.symm)]
    exact ih (fun g hg => h g (by simp [hg]))
theorem get_mem {l : List Fld} (hr : Ris l) (k v : ByteArray) : getL l k = some v ↔ (k, v) ∈ l := by
  induction l with
  | nil => simp [getL]
  | cons f r ih =>
    obtain ⟨h1, h2⟩ := ris_cons.1 hr
    unfold getL
    by_cases e : f.1 = k
    · rw [if_pos e]
      constructor
      · intro h; injection h with h; rw [← e, ← h]; simp
      · intro h
        rcases List.mem_cons.1 h with h | h
        · rw [← h]
        · exact absurd e (lt_ne (h1 _ h))
    · rw [if_neg e, ih h2]
      constructor
      · intro h; exact List.mem_cons_of_mem _ h
      · intro h
        rcases List.mem_cons.1 h with h | h
        · exact absurd (by rw [← h]) e
        · exact h
theorem set_mem {l : List Fld} {k v : ByteArray} {g : Fld} (h : g ∈ setL l k v) : g = (k, v) ∨ g ∈ l := by
  induction l with
  | nil => simpa [setL] using h
  | cons f r ih =>
    unfold setL at h
    split at h
    · rcases List.mem_cons.1 h with h | h
      · exact .inl h
      · exact .inr (List.mem_cons_of_mem _ h)
    · split at h
      · rcases List.mem_cons.1 h with h | h
        · exact .inl h
        · exact .inr h
      · rcases List.mem_cons.1 h with h | h
        · exact .inr (by rw [h]; simp)
        · rcases ih h with h | h
          · exact .inl h
          · exact .inr (List.mem_cons_of_mem _ h)
theorem ris_set {l : List Fld} (hr : Ris l) (k v : ByteArray) : Ris (setL l k v) := by
  induction l with
  | nil => exact List.pairwise_singleton _ _
  | cons f r ih =>
    obtain ⟨h1, h2⟩ := ris_cons.1 hr
    unfold setL
    split
    · rename_i e
      exact ris_cons.2 ⟨fun g hg => by rw [← e]; exact h1 g hg, h2⟩
    · rename_i e
      split
      · rename_i hl
        exact ris_cons.2 ⟨fun g hg => by
          rcases List.mem_cons.1 hg with rfl | hg
          · exact hl
          · exact lt_tr hl (h1 g hg), hr⟩
      · rename_i hl
        exact ris_cons.2 ⟨fun g hg => by
          rcases set_mem hg with rfl | hg
          · exact lt_tot (by simpa using hl) (fun e' => e e'.symm)
          · exact h1 g hg, ih h2⟩
theorem get_set {l : List Fld} (k v k' : ByteArray) : getL (setL l k v) k' = if k' = k then some v else getL l k' := by
  induction l with
  | nil =>
    unfold setL getL
    by_cases e : k = k'
    · rw [if_pos e, if_pos e.symm]
    · rw [if_neg e, if_neg (fun e' => e e'.symm)]; rfl
  | cons f r ih =>
    unfold setL
    split
    · rename_i e
      unfold getL
      by_cases e' : k = k'
      · rw [if_pos e', if_pos e'.symm]
      · rw [if_neg e', if_neg (fun h => e' h.symm), if_neg (fun h => e' (by rw [← e, h]))]
    · rename_i e
      split
      · show (if k = k' then some v else getL (f :: r) k') = _
        by_cases e' : k = k'
        · rw [if_pos e', if_pos e'.symm]
        · rw [if_neg e', if_neg (fun h => e' h.symm)]
      · show (if f.1 = k' then some f.2 else getL (setL r k v) k') = if k' = k then some v else (if f.1 = k' then some f.2 else getL r k')
        rw [ih]
        by_cases e' : f.1 = k'
        · rw [if_pos e', if_pos e', if_neg (fun h => e (by rw [e', h]))]
        · rw [if_neg e', if_neg e']
theorem drop_sub {l : List Fld} {k : ByteArray} {g : Fld} (h : g ∈ dropL l k) : g ∈ l := by
  induction l with
  | nil => exact h
  | cons f r ih =>
    unfold dropL at h
    split at h
    · exact List.mem_cons_of_mem _ h
    · rcases List.mem_cons.1 h with h | h
      · rw [h]; simp
      · exact List.mem_cons_of_mem _ (ih h)
theorem ris_drop {l : List Fld} (hr : Ris l) (k : ByteArray) : Ris (dropL l k) := by
  induction l with
  | nil => exact hr
  | cons f r ih =>
    obtain ⟨h1, h2⟩ := ris_cons.1 hr
    unfold dropL
    split
    · exact h2
    · exact ris_cons.2 ⟨fun g hg => h1 g (drop_sub hg), ih h2⟩
theorem get_drop {l : List Fld} (hr : Ris l) (k k' : ByteArray) : getL (dropL l k) k' = if k' = k then none else getL l k' := by
  induction l with
  | nil => simp [dropL, getL]
  | cons f r ih =>
    obtain ⟨h1, h2⟩ := ris_cons.1 hr
    unfold dropL
    split
    · rename_i e
      by_cases e' : k' = k
      · rw [if_pos e', e']
        exact get_none_lt (fun g hg => by rw [← e]; exact h1 g hg)
      · rw [if_neg e']
        show _ = if f.1 = k' then some f.2 else getL r k'
        rw [if_neg (fun h => e' (by rw [← h, e]))]
    · rename_i e
      show (if f.1 = k' then some f.2 else getL (dropL r k) k') = if k' = k then none else (if f.1 = k' then some f.2 else getL r k')
      rw [ih h2]
      by_cases e' : f.1 = k'
      · rw [if_pos e', if_pos e', if_neg (fun h => e (by rw [e', h]))]
      · rw [if_neg e', if_neg e']
theorem set_len (l : List Fld) (hr : Ris l) (k v : ByteArray) : (setL l k v).length = if (getL l k).isSome then l.length else l.length + 1 := by
  induction l with
  | nil => rfl
  | cons f r ih =>
    obtain ⟨h1, h2⟩ := ris_cons.1 hr
    unfold setL getL
    split
    · simp
    · rename_i e
      split
      · rename_i hl
        rw [get_none_lt (fun g hg => lt_tr hl (h1 g hg))]
        simp
      · rw [List.length_cons, ih h2]
        split <;> simp_all
theorem drop_len (l : List Fld) (k : ByteArray) : (dropL l k).length = if (getL l k).isSome then l.length - 1 else l.length := by
  induction l with
  | nil => rfl
  | cons f r ih =>
    unfold dropL getL
    split
    · simp
    · rename_i e
      rw [List.length_cons, ih]
      have : (getL r k).isSome = true → 1 ≤ r.length := by
        cases r with
        | nil => intro h; simp [getL] at h
        | cons a b => intro _; simp
      split
      · rename_i h; have := this h; simp; omega
      · rfl
theorem pos_le (l : List Fld) (k : ByteArray) : posL l k ≤ l.length := by
  induction l with
  | nil => exact Nat.le_refl _
  | cons f r ih => unfold posL; split <;> simp <;> omega
theorem pos_below {l : List Fld} {k : ByteArray} {i : Nat} {f : Fld} (h : i < posL l k) (hf : l[i]? = some f) : ltS f.1 k = true := by
  induction l generalizing i with
  | nil => cases hf
  | cons g r ih =>
    unfold posL at h
    split at h
    · rename_i hg
      cases i with
      | zero => injection hf with hf; rw [← hf]; exact hg
      | succ i => exact ih (by omega) hf
    · omega
theorem pos_above {l : List Fld} (hr : Ris l) {k : ByteArray} {i : Nat} {f : Fld} (h : posL l k ≤ i) (hf : l[i]? = some f) : ltS f.1 k = false := by
  induction l generalizing i with
  | nil => cases hf
  | cons g r ih =>
    obtain ⟨h1, h2⟩ := ris_cons.1 hr
    unfold posL at h
    split at h
    · cases i with
      | zero => omega
      | succ i => exact ih h2 (by omega) hf
    · rename_i hg
      cases i with
      | zero => injection hf with hf; rw [← hf]; simpa using hg
      | succ i =>
        have hm := h1 f (List.mem_of_getElem? hf)
        cases hk : ltS f.1 k
        · rfl
        · exact absurd (lt_tr hm hk) (by simpa using hg)
/-- The name at its place, if it is there. -/
theorem get_pos {l : List Fld} (hr : Ris l) (k : ByteArray) : getL l k = match l[posL l k]? with | some f => if f.1 = k then some f.2 else none | none => none := by
  induction l with
  | nil => rfl
  | cons g r ih =>
    obtain ⟨h1, h2⟩ := ris_cons.1 hr
    unfold getL posL
    by_cases hg : ltS g.1 k = true
    · rw [if_pos hg, if_neg (lt_ne hg), ih h2]
      simp
    · rw [if_neg hg]
      simp only [List.getElem?_cons_zero]
      by_cases e : g.1 = k
      · rw [if_pos e, if_pos e]
      · rw [if_neg e, if_neg e]
        exact get_none_lt (fun x hx => lt_tr (lt_tot (by simpa using hg) e) (h1 x hx))
theorem set_pos {l : List Fld} (hr : Ris l) (k v : ByteArray) : setL l k v = l.take (posL l k) ++ (k, v) :: l.drop (if (getL l k).isSome then posL l k + 1 else posL l k) := by
  induction l with
  | nil => rfl
  | cons g r ih =>
    obtain ⟨h1, h2⟩ := ris_cons.1 hr
    unfold setL getL posL
    by_cases e : g.1 = k
    · rw [if_pos e, if_pos e, if_neg (by rw [e, lt_irr]; simp)]
      simp
    · rw [if_neg e, if_neg e]
      by_cases hg : ltS g.1 k = true
      · rw [if_pos hg, if_neg (by rw [lt_asym hg]; simp), ih h2]
        split <;> simp
      · have hk := lt_tot (by simpa using hg) e
        rw [if_neg hg, if_pos hk, get_none_lt (fun x hx => lt_tr hk (h1 x hx))]
        simp
theorem drop_pos {l : List Fld} (hr : Ris l) (k : ByteArray) : dropL l k = if (getL l k).isSome then l.take (posL l k) ++ l.drop (posL l k + 1) else l := by
  induction l with
  | nil => rfl
  | cons g r ih =>
    obtain ⟨h1, h2⟩ := ris_cons.1 hr
    unfold dropL getL posL
    by_cases e : g.1 = k
    · have hlt : ltS g.1 k = false := by rw [e, lt_irr]
      rw [if_pos e, if_pos e, hlt]
      simp
    · rw [if_neg e, if_neg e, ih h2]
      by_cases hg : ltS g.1 k = true
      · rw [if_pos hg]
        split <;> simp
      · have hk := lt_tot (by simpa using hg) e
        rw [get_none_lt (fun x hx => lt_tr hk (h1 x hx))]
        simp
/-- The place behind a name. -/
def aftP (l : List Fld) (k : ByteArray) : Nat := if (getL l k).isSome then posL l k + 1 else posL l k
def aftL (l : List Fld) (k : ByteArray) (most : Int) : List Fld := (l.drop (aftP l k)).take most.toNat
theorem aft_le (l : List Fld) (hr : Ris l) (k : ByteArray) : aftP l k ≤ l.length := by
  unfold aftP
  have h1 := pos_le l k
  split
  · rename_i h
    rw [get_pos hr] at h
    rcases hx : l[posL l k]? with _ | f
    · rw [hx] at h; cases h
    · exact (List.getElem?_eq_some_iff.1 hx).1
  · exact h1
theorem aft_iff {l : List Fld} (hr : Ris l) {k : ByteArray} {i : Nat} {f : Fld} (hf : l[i]? = some f) : ltS k f.1 = true ↔ aftP l k ≤ i := by
  have hg := get_pos hr k
  unfold aftP
  by_cases h : i < posL l k
  · have := pos_below h hf
    rw [lt_asym this]
    constructor
    · intro h'; cases h'
    · intro h'; split at h' <;> omega
  · have ha := pos_above hr (Nat.le_of_not_lt h) hf
    by_cases he : i = posL l k
    · subst he
      rw [hf] at hg
      simp only at hg
      rw [hg]
      by_cases e : f.1 = k
      · rw [if_pos e, e, lt_irr]
        simp
      · rw [if_neg e]
        simp [lt_tot ha e]
    · have hi : posL l k < i := by omega
      have hlt := (List.getElem?_eq_some_iff.1 hf).1
      obtain ⟨g, hgk⟩ : ∃ g, l[posL l k]? = some g := ⟨_, List.getElem?_eq_getElem (by omega)⟩
      have h1 := pos_above hr (Nat.le_refl _) hgk
      have h2 : ltS g.1 f.1 = true := by
        have := List.pairwise_iff_getElem.1 hr (posL l k) i (by omega) hlt hi
        rw [(List.getElem?_eq_some_iff.1 hgk).2, (List.getElem?_eq_some_iff.1 hf).2] at this
        exact this
      constructor
      · intro _; split <;> omega
      · intro _
        by_cases e : g.1 = k
        · rw [← e]; exact h2
        · exact lt_tr (lt_tot h1 e) h2
end Go.Proofs.YthgdkmbcibfehaaDoor.DcA
