/-
  Plain law: what keys have, by rising keys; and their ticks in order. Conditions: as stated.
  A map of the call's own whose elements are of any type: each is told by itself. Conditions: as stated.
  A space as it is (plain), and what is done to it; rows of flat elements. Conditions: as stated.
  A space at its blocks. Conditions: as stated.
  touch, free, lay, note: a space is turned. Conditions: as stated.
-/
import Derived.Test.YtgmnnpbbiejbnaaGreatMgA
import Derived.Maps.OwnOps
import Derived.Maps.OwnSet
import Derived.Maps.Views
import Derived.Maps.Range
import Derived.Maps.RangeWalk
import Derived.Test.YtgmnnpbbiejbnaaGreatVaX
import Derived.Test.YtgmnnpbbiejbnaaGreatVaT
import Derived.Deep.RegionHeld3
import Derived.StillTailTactics
import Derived.BigRegion
set_option linter.unusedSimpArgs false
set_option linter.unusedVariables false
namespace Go.Proofs.YtgmnnpbbiejbnaaGreat.SpA
open Go.Proofs.YtgmnnpbbiejbnaaGreat.DuA

section
variable {K α β : Type} (lt : K → K → Bool)
def Ris (l : List (K × α)) : Prop := l.Pairwise (fun a b => lt a.1 b.1 = true)
def getK [DecidableEq K] (l : List (K × α)) (k : K) : Option α := (l.find? (fun e => decide (e.1 = k))).map (·.2)
def dropK [DecidableEq K] (l : List (K × α)) (k : K) : List (K × α) := l.filter (fun e => decide (e.1 ≠ k))
def insK (e : K × α) : List (K × α) → List (K × α)
  | [] => [e]
  | y :: r => if lt e.1 y.1 then e :: y :: r else y :: insK e r
def setK [DecidableEq K] (l : List (K × α)) (k : K) (x : α) : List (K × α) := insK lt (k, x) (dropK l k)
def mapV (f : α → β) (l : List (K × α)) : List (K × β) := l.map (fun e => (e.1, f e.2))
variable {lt}

theorem Ris.nil : Ris lt ([] : List (K × α)) := List.Pairwise.nil
theorem lt_ne (h : Lin lt) {a b : K} (hl : lt a b = true) : a ≠ b := fun e => by rw [e, h.irr] at hl; cases hl
theorem Ris.nodup (h : Lin lt) {l : List (K × α)} (hr : Ris lt l) : (l.map (·.1)).Nodup := by
  unfold Ris at hr
  rw [List.Nodup, List.pairwise_map]
  exact hr.imp (fun hl => lt_ne h hl)
theorem get_cons [DecidableEq K] (e : K × α) (r : List (K × α)) (k : K) : getK (e :: r) k = if e.1 = k then some e.2 else getK r k := by
  unfold getK
  by_cases h : e.1 = k <;> simp [h]
theorem get_none [DecidableEq K] {l : List (K × α)} {k : K} : getK l k = none ↔ k ∉ l.map (·.1) := by
  unfold getK
  simp [List.find?_eq_none]
  exact ⟨fun h x hx => h k x hx rfl, fun h a b hab e => h b (e ▸ hab)⟩
theorem mem_get [DecidableEq K] {l : List (K × α)} (hn : (l.map (·.1)).Nodup) {k : K} {x : α} : getK l k = some x ↔ (k, x) ∈ l := by
  induction l with
  | nil => simp [getK]
  | cons e r ih =>
    rw [List.map_cons, List.nodup_cons] at hn
    rw [get_cons]
    by_cases h : e.1 = k
    · rw [if_pos h]
      constructor
      · intro hx; injection hx with hx; subst h hx; exact List.mem_cons_self ..
      · intro hm
        rcases List.mem_cons.1 hm with rfl | hm
        · rfl
        · exact absurd (List.mem_map.2 ⟨_, hm, rfl⟩) (h ▸ hn.1)
    · rw [if_neg h, ih hn.2]
      constructor
      · exact fun hm => List.mem_cons_of_mem _ hm
      · intro hm
        rcases List.mem_cons.1 hm with rfl | hm
        · exact absurd rfl h
        · exact hm
theorem mem_getR [DecidableEq K] (h : Lin lt) {l : List (K × α)} (hr : Ris lt l) {k : K} {x : α} : getK l k = some x ↔ (k, x) ∈ l := mem_get (hr.nodup h)
theorem mem_drop [DecidableEq K] {l : List (K × α)} {k : K} {e : K × α} : e ∈ dropK l k ↔ e ∈ l ∧ e.1 ≠ k := by simp [dropK]
theorem ris_drop [DecidableEq K] {l : List (K × α)} (hr : Ris lt l) (k : K) : Ris lt (dropK l k) := List.Pairwise.filter _ hr
theorem get_drop [DecidableEq K] (l : List (K × α)) (k k' : K) : getK (dropK l k) k' = if k' = k then none else getK l k' := by
  induction l with
  | nil => simp [getK, dropK]
  | cons e r ih =>
    unfold dropK at ih ⊢
    by_cases h : e.1 = k
    · rw [List.filter_cons_of_neg (by simp [h]), ih]
      by_cases h2 : k' = k
      · rw [if_pos h2, if_pos h2]
      · rw [if_neg h2, if_neg h2, get_cons, if_neg (fun e' => h2 (e'.symm.trans h))]
    · rw [List.filter_cons_of_pos (by simp [h]), get_cons, ih, get_cons]
      by_cases h2 : k' = k
      · rw [if_pos h2, if_pos h2, if_neg (fun e' => h (e'.trans h2))]
      · rw [if_neg h2, if_neg h2]
theorem mem_ins {e x : K × α} : ∀ {l : List (K × α)}, x ∈ insK lt e l ↔ x = e ∨ x ∈ l
  | [] => by simp [insK]
  | y :: r => by
    unfold insK
    split
    · simp
    · rw [List.mem_cons, mem_ins (l := r), List.mem_cons]
      constructor
      · rintro (h | h | h)
        · exact .inr (.inl h)
        · exact .inl h
        · exact .inr (.inr h)
      · rintro (h | h | h)
        · exact .inr (.inl h)
        · exact .inl h
        · exact .inr (.inr h)
theorem ins_len (e : K × α) : ∀ l : List (K × α), (insK lt e l).length = l.length + 1
  | [] => rfl
  | y :: r => by
    unfold insK
    split
    · rfl
    · simp [ins_len e r]
theorem ris_ins (h : Lin lt) {e : K × α} : ∀ {l : List (K × α)}, Ris lt l → e.1 ∉ l.map (·.1) → Ris lt (insK lt e l)
  | [], _, _ => by simp [insK, Ris]
  | y :: r, hr, hm => by
    have hr' := List.pairwise_cons.1 hr
    unfold insK
    split
    · rename_i hl
      refine List.pairwise_cons.2 ⟨fun x hx => ?_, hr⟩
      rcases List.mem_cons.1 hx with rfl | hx
      · exact hl
      · exact h.tr hl (hr'.1 x hx)
    · rename_i hl
      simp only [List.map_cons, List.mem_cons, not_or] at hm
      refine List.pairwise_cons.2 ⟨fun x hx => ?_, ris_ins h hr'.2 hm.2⟩
      rcases mem_ins.1 hx with rfl | hx
      · exact h.tot (by simpa using hl) hm.1
      · exact hr'.1 x hx
theorem not_mem_drop [DecidableEq K] (l : List (K × α)) (k : K) : k ∉ (dropK l k).map (·.1) := by
  intro h
  obtain ⟨e, he, e2⟩ := List.mem_map.1 h
  exact (mem_drop.1 he).2 e2
theorem ris_set [DecidableEq K] (h : Lin lt) {l : List (K × α)} (hr : Ris lt l) (k : K) (x : α) : Ris lt (setK lt l k x) := ris_ins h (ris_drop hr k) (not_mem_drop l k)
theorem get_ins [DecidableEq K] (e : K × α) (k : K) : ∀ (l : List (K × α)), e.1 ∉ l.map (·.1) → getK (insK lt e l) k = if k = e.1 then some e.2 else getK l k
  | [], _ => by
    unfold insK
    rw [get_cons]
    by_cases h : e.1 = k
    · rw [if_pos h, if_pos h.symm]
    · rw [if_neg h, if_neg (fun h' => h h'.symm)]
  | y :: r, hm => by
    simp only [List.map_cons, List.mem_cons, not_or] at hm
    unfold insK
    split
    · rw [get_cons]
      by_cases h : e.1 = k
      · rw [if_pos h, if_pos h.symm]
      · rw [if_neg h, if_neg (fun h' => h h'.symm)]
    · rw [get_cons, get_ins e k r hm.2, get_cons]
      by_cases h : y.1 = k
      · rw [if_pos h, if_neg (fun h' => hm.1 (h'.symm.trans h.symm)), if_pos h]
      · rw [if_neg h, if_neg h]
theorem get_set [DecidableEq K] (l : List (K × α)) (k k' : K) (x : α) : getK (setK lt l k x) k' = if k' = k then some x else getK l k' := by
  unfold setK
  rw [get_ins _ _ _ (not_mem_drop l k), get_drop]
  by_cases h : k' = k
  · rw [if_pos h, if_pos h]
  · rw [if_neg h, if_neg h, if_neg h]
theorem drop_len [DecidableEq K] : ∀ {l : List (K × α)} (hn : (l.map (·.1)).Nodup) (k : K), (dropK l k).length = if (getK l k).isSome then l.length - 1 else l.length
  | [], _, k => by simp [dropK, getK]
  | e :: r, hn, k => by
    rw [List.map_cons, List.nodup_cons] at hn
    have ih := drop_len hn.2 k
    rw [get_cons]
    unfold dropK at ih ⊢
    by_cases h : e.1 = k
    · rw [List.filter_cons_of_neg (by simp [h]), if_pos h, ih]
      have : getK r k = none := get_none.2 (h ▸ hn.1)
      rw [this]; simp
    · rw [List.filter_cons_of_pos (by simp [h]), if_neg h, List.length_cons, ih]
      by_cases hs : (getK r k).isSome
      · rw [if_pos hs, if_pos hs]
        have : r ≠ [] := by rintro rfl; simp [getK] at hs
        have := List.length_pos_iff.2 this
        simp; omega
      · rw [if_neg hs, if_neg hs]; rfl
theorem set_len [DecidableEq K] {l : List (K × α)} (hn : (l.map (·.1)).Nodup) (k : K) (x : α) : (setK lt l k x).length = if (getK l k).isSome then l.length else l.length + 1 := by
  unfold setK
  rw [ins_len, drop_len hn]
  by_cases hs : (getK l k).isSome
  · rw [if_pos hs, if_pos hs]
    have : l ≠ [] := by rintro rfl; simp [getK] at hs
    have := List.length_pos_iff.2 this
    omega
  · rw [if_neg hs, if_neg hs]
/-- What rises is told by what its keys have. -/
theorem ris_ext [DecidableEq K] (h : Lin lt) : ∀ {l l' : List (K × α)}, Ris lt l → Ris lt l' → (∀ k, getK l k = getK l' k) → l = l'
  | [], [], _, _, _ => rfl
  | [], e :: r, _, _, hg => by
    have := hg e.1
    rw [get_cons, if_pos rfl] at this
    simp [getK] at this
  | e :: r, [], _, _, hg => by
    have := hg e.1
    rw [get_cons, if_pos rfl] at this
    simp [getK] at this
  | e :: r, e' :: r', h1, h2, hg => by
    have p1 := List.pairwise_cons.1 h1
    have p2 := List.pairwise_cons.1 h2
    have n1 := h1.nodup h
    have n2 := h2.nodup h
    have he : e = e' := by
      have m1 : (e.1, e.2) ∈ e' :: r' := (mem_get n2).1 (by rw [← hg, get_cons, if_pos rfl])
      have m2 : (e'.1, e'.2) ∈ e :: r := (mem_get n1).1 (by rw [hg, get_cons, if_pos rfl])
      rcases List.mem_cons.1 m1 with m1 | m1
      · exact m1
      · rcases List.mem_cons.1 m2 with m2 | m2
        · exact m2.symm
        · have a := p2.1 _ m1
          have b := p1.1 _ m2
          have := h.tr a b
          rw [h.irr] at this; cases this
    subst he
    rw [List.map_cons, List.nodup_cons] at n1 n2
    have : r = r' := ris_ext h p1.2 p2.2 (fun k => by
      have := hg k
      rw [get_cons, get_cons] at this
      by_cases hk : e.1 = k
      · subst hk
        rw [get_none.2 n1.1, get_none.2 n2.1]
      · rw [if_neg hk, if_neg hk] at this; exact this)
    rw [this]

theorem map_get [DecidableEq K] (f : α → β) (l : List (K × α)) (k : K) : getK (mapV f l) k = (getK l k).map f := by
  induction l with
  | nil => rfl
  | cons e r ih =>
    show getK ((e.1, f e.2) :: mapV f r) k = _
    rw [get_cons, get_cons, ih]
    split <;> rfl
theorem map_drop [DecidableEq K] (f : α → β) (l : List (K × α)) (k : K) : mapV f (dropK l k) = dropK (mapV f l) k := by
  unfold mapV dropK
  rw [List.filter_map]
  rfl
theorem map_ins (f : α → β) (e : K × α) : ∀ l : List (K × α), mapV f (insK lt e l) = insK lt (e.1, f e.2) (mapV f l)
  | [] => rfl
  | y :: r => by
    have ih := map_ins f e r
    unfold mapV at ih ⊢
    rw [List.map_cons]
    unfold insK
    split
    · simp
    · rw [List.map_cons, ih]
theorem map_set [DecidableEq K] (f : α → β) (l : List (K × α)) (k : K) (x : α) : mapV f (setK lt l k x) = setK lt (mapV f l) k (f x) := by
  unfold setK
  rw [map_ins, map_drop]
theorem map_ris {f : α → β} {l : List (K × α)} : Ris lt (mapV f l) ↔ Ris lt l := by
  unfold Ris mapV
  rw [List.pairwise_map]
theorem map_keys (f : α → β) (l : List (K × α)) : (mapV f l).map (·.1) = l.map (·.1) := by
  unfold mapV
  rw [List.map_map]; rfl
/-- The ticks, in order. -/
def duesOf (lt : K → K → Bool) (f : α → Int) : List (K × α) → List (Int × K)
  | [] => []
  | e :: r => if f e.2 = 0 then duesOf lt f r else insL lt (f e.2, e.1) (duesOf lt f r)
theorem due_mem (f : α → Int) : ∀ {l : List (K × α)} {k : K}, k ∈ (duesOf lt f l).map (·.2) → k ∈ l.map (·.1)
  | [], k, h => by simp [duesOf] at h
  | e :: r, k, h => by
    unfold duesOf at h
    split at h
    · exact List.mem_cons_of_mem _ (due_mem f h)
    · obtain ⟨x, hx, rfl⟩ := List.mem_map.1 h
      rcases ins_mem.1 hx with rfl | hx
      · exact List.mem_cons_self ..
      · exact List.mem_cons_of_mem _ (due_mem f (List.mem_map.2 ⟨x, hx, rfl⟩))
theorem srt_of (h : Lin lt) (f : α → Int) : ∀ {l : List (K × α)}, (l.map (·.1)).Nodup → Srt lt (duesOf lt f l)
  | [], _ => Srt.nil
  | e :: r, hn => by
    rw [List.map_cons, List.nodup_cons] at hn
    have ih := srt_of h f hn.2
    unfold duesOf
    split
    · exact ih
    · exact Srt.ins h ih (fun hm => hn.1 (due_mem f hm))
theorem due_of [DecidableEq K] (h : Lin lt) (f : α → Int) : ∀ {l : List (K × α)}, (l.map (·.1)).Nodup → ∀ k, dueL (duesOf lt f l) k = (getK l k).bind (fun x => if f x = 0 then none else some (f x))
  | [], _, k => rfl
  | e :: r, hn, k => by
    rw [List.map_cons, List.nodup_cons] at hn
    have ih := due_of h f hn.2
    rw [get_cons]
    unfold duesOf
    by_cases hf : f e.2 = 0
    · rw [if_pos hf]
      by_cases hk : e.1 = k
      · subst hk
        rw [if_pos rfl, due_none.2 (fun hm => hn.1 (due_mem f hm))]
        simp [hf]
      · rw [if_neg hk, ih]
    · rw [if_neg hf, due_ins h (srt_of h f hn.2) (fun hm => hn.1 (due_mem f hm))]
      by_cases hk : e.1 = k
      · subst hk
        rw [if_pos rfl, if_pos rfl]
        simp [hf]
      · rw [if_neg (fun e' => hk e'.symm), if_neg hk, ih]
/-- What is in order is told by its keys' ticks. -/
theorem srt_ext [DecidableEq K] (h : Lin lt) : ∀ {l l' : List (Int × K)}, Srt lt l → Srt lt l' → (∀ k, dueL l k = dueL l' k) → l = l'
  | [], [], _, _, _ => rfl
  | [], e :: r, _, h2, hg => by
    have := hg e.2
    rw [(due_some h2.one (t := e.1)).2 (List.mem_cons_self ..)] at this
    simp [dueL] at this
  | e :: r, [], h1, _, hg => by
    have := hg e.2
    rw [(due_some h1.one (t := e.1)).2 (List.mem_cons_self ..)] at this
    simp [dueL] at this
  | e :: r, e' :: r', h1, h2, hg => by
    have p1 := List.pairwise_cons.1 h1.ord
    have p2 := List.pairwise_cons.1 h2.ord
    have he : e = e' := by
      have m1 : (e.1, e.2) ∈ e' :: r' := (due_some h2.one).1 (by rw [← hg]; exact (due_some h1.one).2 (List.mem_cons_self ..))
      have m2 : (e'.1, e'.2) ∈ e :: r := (due_some h1.one).1 (by rw [hg]; exact (due_some h2.one).2 (List.mem_cons_self ..))
      rcases List.mem_cons.1 m1 with m1 | m1
      · exact m1
      · rcases List.mem_cons.1 m2 with m2 | m2
        · exact m2.symm
        · have := bef_tr h (p2.1 _ m1) (p1.1 _ m2)
          rw [bef_irr h] at this; cases this
    subst he
    have n1 := h1.one
    have n2 := h2.one
    rw [List.map_cons, List.nodup_cons] at n1 n2
    have : r = r' := srt_ext h ⟨p1.2, n1.2⟩ ⟨p2.2, n2.2⟩ (fun k => by
      have := hg k
      by_cases hk : e.2 = k
      · subst hk
        rw [due_none.2 n1.1, due_none.2 n2.1]
      · simpa [dueL, hk] using this)
    rw [this]
theorem dues_drop [DecidableEq K] (h : Lin lt) (f : α → Int) {l : List (K × α)} (hr : Ris lt l) (k : K) : dropL (duesOf lt f l) k = duesOf lt f (dropK l k) := by
  have hn := hr.nodup h
  have hn2 := (ris_drop hr k).nodup h
  refine srt_ext h ((srt_of h f hn).drop k) (srt_of h f hn2) (fun k' => ?_)
  rw [due_drop (srt_of h f hn).one, due_of h f hn2, get_drop, due_of h f hn]
  split <;> rfl
theorem dues_set [DecidableEq K] (h : Lin lt) (f : α → Int) {l : List (K × α)} (hr : Ris lt l) (k : K) (x : α) : duesOf lt f (setK lt l k x) = if f x = 0 then dropL (duesOf lt f l) k else insL lt (f x, k) (dropL (duesOf lt f l) k) := by
  have hn := hr.nodup h
  have hn2 := (ris_set h hr k x).nodup h
  have hs := (srt_of h f hn).drop k
  have hm : k ∉ (dropL (duesOf lt f l) k).map (·.2) := drop_not_mem _ _
  by_cases hf : f x = 0
  · rw [if_pos hf]
    refine srt_ext h (srt_of h f hn2) hs (fun k' => ?_)
    rw [due_drop (srt_of h f hn).one, due_of h f hn2, get_set, due_of h f hn]
    split
    · simp [hf]
    · rfl
  · rw [if_neg hf]
    refine srt_ext h (srt_of h f hn2) (Srt.ins h hs hm) (fun k' => ?_)
    rw [due_ins h hs hm, due_drop (srt_of h f hn).one, due_of h f hn2, get_set, due_of h f hn]
    by_cases hk : k' = k
    · rw [if_pos hk, if_pos hk]; simp [hf]
    · rw [if_neg hk, if_neg hk, if_neg hk]
end
end Go.Proofs.YtgmnnpbbiejbnaaGreat.SpA
set_option maxRecDepth 100000
set_option linter.unusedSimpArgs false
set_option linter.unusedVariables false
namespace Go.Proofs.YtgmnnpbbiejbnaaGreat.SpB
open Go.RowKit Go.Proofs.YtgmnnpbbiejbnaaGreat.Mem Go.Proofs.YtgmnnpbbiejbnaaGreat.DuA Go.Proofs.YtgmnnpbbiejbnaaGreat.DuB Go.Proofs.YtgmnnpbbiejbnaaGreat.DuN Go.Proofs.YtgmnnpbbiejbnaaGreat.SpA Go.Proofs.YtgmnnpbbiejbnaaGreat.DsH

abbrev DV := DataW Value
def tk (v : Value) : Option (DV × List MemPlace) := some (.held v, [])
abbrev VL := List (ByteArray × Value)
structure TellsV (D : DV) (l : VL) : Prop where
  is : ∀ k, Maps.has D (klS k) = (getK l k).isSome
  at_ : ∀ k zd, D.atKey (klS k) zd = ((getK l k).map (fun v => (DataW.held v : DV))).getD zd
  size : Maps.size D = l.length
theorem TellsV.nil : TellsV (.map []) [] := ⟨fun k => rfl, fun k zd => rfl, rfl⟩
theorem TellsV.put {D : DV} (hD : Maps.Tidy D) {l : VL} (hr : Ris ltS l) (hT : TellsV D l) (k : ByteArray) (v : Value) : TellsV (D.put (klS k) (.held v)) (setK ltS l k v) := by
  refine ⟨fun k' => ?_, fun k' zd => ?_, ?_⟩
  · rw [get_set]
    by_cases e : k' = k
    · subst e; rw [Maps.has_put_same hD.isMap (keyS.ok _), if_pos rfl]; rfl
    · rw [Maps.has_put_other (fun e' => e (keyS.inj e')), if_neg e]; exact hT.is k'
  · rw [get_set]
    by_cases e : k' = k
    · subst e; rw [Maps.atKey_put_same hD.isMap (keyS.ok _), if_pos rfl]; rfl
    · rw [Maps.atKey_put_other (fun e' => e (keyS.inj e')), if_neg e]; exact hT.at_ k' zd
  · rw [Maps.size_put hD, hT.is k, hT.size, set_len (hr.nodup linS)]
theorem TellsV.del {D : DV} (hD : Maps.Tidy D) {l : VL} (hr : Ris ltS l) (hT : TellsV D l) (k : ByteArray) : TellsV (D.del (klS k)) (dropK l k) := by
  refine ⟨fun k' => ?_, fun k' zd => ?_, ?_⟩
  · rw [get_drop]
    by_cases e : k' = k
    · subst e; rw [Maps.has_del_same, if_pos rfl]; rfl
    · rw [Maps.has_del_other (fun e' => e (keyS.inj e')), if_neg e]; exact hT.is k'
  · rw [get_drop]
    by_cases e : k' = k
    · subst e; rw [Maps.atKey_del_same, if_pos rfl]; rfl
    · rw [Maps.atKey_del_other (fun e' => e (keyS.inj e')), if_neg e]; exact hT.at_ k' zd
  · have := Maps.size_del (k := klS k) hD
    rw [hT.is k, hT.size] at this
    rw [drop_len (hr.nodup linS)]
    split at this
    · rename_i h; rw [if_pos h]; omega
    · rename_i h; rw [if_neg h]; omega
abbrev MpV (w : World) (m N : Nat) (D : DV) : Prop := w.ownsMap Tryz.prog 9 tk m N D
/-- Block m is a map that has l. -/
structure Mv (w : World) (m N : Nat) (l : VL) : Prop where
  mp : ∃ D, MpV w m N D ∧ TellsV D l
  ris : Ris ltS l
section
variable {w w' : World} {m N : Nat} {l : VL} {S : Nat → Prop}
theorem Mv.lt (h : Mv w m N l) : m < w.heap.size := by
  obtain ⟨D, hM, _⟩ := h.mp
  exact hM.lt
theorem Mv.only (h : Mv w m N l) (ho : Only S w w') (h2 : ¬ S m) : Mv w' m N l := by
  obtain ⟨D, ⟨es, clock, hb, F, hn, hD⟩, hT⟩ := h.mp
  exact { h with mp := ⟨D, ⟨es, clock, ho.heap hb h2, F, hn, hD⟩, hT⟩ }
theorem Mv.below (h : Mv w m N l) (hb : Below w.heap.size w w') : Mv w' m N l := h.only (Only.of_below hb) (by have := h.lt; omega)
theorem Mv.mono (h : Mv w m N l) {N' : Nat} (hN : N ≤ N') : Mv w m N' l := by
  obtain ⟨D, hM, hT⟩ := h.mp
  exact { h with mp := ⟨D, hM.mono hN, hT⟩ }
theorem Mv.len (h : Mv w m N l) : l.length ≤ N := by
  obtain ⟨D, hM, hT⟩ := h.mp
  have := hM.size_le
  rw [hT.size] at this
  exact this
theorem Mv.made (w : World) : Mv (w.alloc (.map #[] 0)) w.heap.size 0 [] := ⟨⟨_, World.ownsMap_made w Tryz.prog 9 tk, TellsV.nil⟩, Ris.nil⟩
theorem tk_inv {v : Value} {x : Option Value} {z : Value} {ps : List MemPlace} {zd : DV} (hz : zd = .held z) (h : tk v = some ((x.map (fun v => (DataW.held v : DV))).getD zd, ps)) : v = x.getD z := by
  subst hz
  unfold tk at h
  injection h with h
  have h1 := congrArg Prod.fst h
  simp only at h1
  cases x with
  | none => simp only [Option.map_none, Option.getD_none] at h1 ⊢; injection h1
  | some y => simp only [Option.map_some, Option.getD_some] at h1 ⊢; injection h1
theorem Mv.look (h : Mv w m N l) {T e : TypeId} {z : Value} (ht : Tryz.prog.underlying T = some (.map 9 e)) (hz : ∀ w : World, (zeroValue e).run Tryz.prog w = .ok z w) {k : ByteArray} (hk : okk k) :
    (Instr.lookup T (.map (some m)) (.string k) true).run Tryz.prog w = .ok (.tuple #[(getK l k).getD z, .bool (getK l k).isSome]) w := by
  obtain ⟨D, hM, hT⟩ := h.mp
  obtain ⟨u, ps, hrun, hv⟩ := hM.look_ok keyed ht (hz w) (zd := .held z) (zp := []) rfl (key := .string k) (kl := klS k) (key_of hk)
  rw [hT.at_ k] at hv
  rw [hrun, hT.is k, tk_inv rfl hv]
theorem Mv.look1 (h : Mv w m N l) {T e : TypeId} {z : Value} (ht : Tryz.prog.underlying T = some (.map 9 e)) (hz : ∀ w : World, (zeroValue e).run Tryz.prog w = .ok z w) {k : ByteArray} (hk : okk k) :
    (Instr.lookup T (.map (some m)) (.string k) false).run Tryz.prog w = .ok ((getK l k).getD z) w := by
  obtain ⟨D, hM, hT⟩ := h.mp
  obtain ⟨u, ps, hrun, hv⟩ := hM.lookup keyed ht (hz w) (zd := .held z) (zp := []) rfl (key := .string k) (kl := klS k) (key_of hk)
  rw [hT.at_ k] at hv
  rw [hrun, tk_inv rfl hv]
theorem Mv.length (h : Mv w m N l) {T e : TypeId} (ht : Tryz.prog.underlying T = some (.map 9 e)) (ty : TypeId) : (Builtin.len_ #[T] ty #[.map (some m)]).run Tryz.prog w = .ok (.int .i64 l.length) w := by
  obtain ⟨D, hM, hT⟩ := h.mp
  rw [hM.len ht ty, hT.size]
/-- The steps that turn a map, as equations. -/
theorem Mv.set (h : Mv w m N l) {T e : TypeId} (ht : Tryz.prog.underlying T = some (.map 9 e)) (hN : N < maxLen) {k : ByteArray} (hk : okk k) (v : Value) :
    ∃ w1, (Instr.mapUpdate T (.map (some m)) (.string k) v).run Tryz.prog w = .ok () w1 ∧ Mv w1 m (N + 1) (setK ltS l k v) ∧ Only (fun b => b = m) w w1 := by
  obtain ⟨D, hM, hT⟩ := h.mp
  obtain ⟨w1, hrun, r1, r2⟩ := hM.update keyed ht hN (key := .string k) (val := v) (kl := klS k) (d := .held v) (ps := []) (key_of hk) rfl
  exact ⟨w1, hrun, ⟨⟨_, r1, hT.put (hM.tidy keyed) h.ris k v⟩, ris_set linS h.ris k v⟩, (Only.of_grown r2).mono (fun b hb => by injection hb with hb; exact hb.symm)⟩
theorem Mv.drop (h : Mv w m N l) {T e : TypeId} (ht : Tryz.prog.underlying T = some (.map 9 e)) {k : ByteArray} (hk : okk k) (ty : TypeId) :
    ∃ w1, (Builtin.delete_ #[T, 9] ty #[.map (some m), .string k]).run Tryz.prog w = .ok (.tuple #[]) w1 ∧ Mv w1 m N (dropK l k) ∧ Only (fun b => b = m) w w1 := by
  obtain ⟨D, hM, hT⟩ := h.mp
  obtain ⟨w1, hrun, r1, r2⟩ := hM.drop keyed ht (key := .string k) (kl := klS k) (key_of hk) ty
  exact ⟨w1, hrun, ⟨⟨_, r1, hT.del (hM.tidy keyed) h.ris k⟩, ris_drop h.ris k⟩, (Only.of_grown r2.grown).mono (fun b hb => by injection hb with hb; exact hb.symm)⟩
end

theorem same_iff (a b : ByteArray) : (klS a).sameKey (klS b) = decide (a = b) := by
  by_cases h : a = b
  · subst h
    rw [WideAt.sameKey_self (keyS.ok a)]
    simp
  · rw [Maps.sameKey_ne (fun e => h (keyS.inj e))]
    simp [h]
/-- out: what has been told; left: the keys that are still to come. -/
structure Coll (l out : VL) (left : Lit → Bool) : Prop where
  sub : ∀ f ∈ out, f ∈ l
  nod : (out.map Prod.fst).Nodup
  left : ∀ k, left (klS k) = true ↔ (getK l k).isSome = true ∧ k ∉ out.map Prod.fst
theorem Coll.start {D : DV} {l : VL} (hT : TellsV D l) : Coll l [] (Maps.has D) :=
  ⟨fun f h => (by cases h), List.nodup_nil, fun k => by rw [hT.is k]; simp⟩
theorem Coll.next {D : DV} {l out : VL} {left : Lit → Bool} (hT : TellsV D l) (hr : Ris ltS l) (h : Coll l out left) {x : ByteArray} {c : Value} (hl : left (klS x) = true)
    (hat : ∀ zd, D.atKey (klS x) zd = .held c) : Coll l (out ++ [(x, c)]) (fun z => left z && !z.sameKey (klS x)) ∧ getK l x = some c := by
  obtain ⟨h3, hnx⟩ := (h.left x).1 hl
  have hc : getK l x = some c := by
    obtain ⟨v, hv⟩ := Option.isSome_iff_exists.1 h3
    have := hT.at_ x .nil
    rw [hat, hv] at this
    simp only [Option.map_some, Option.getD_some] at this
    injection this with this
    rw [hv, this]
  refine ⟨⟨fun f hf => ?_, ?_, fun k => ?_⟩, hc⟩
  · rcases List.mem_append.1 hf with hf | hf
    · exact h.sub f hf
    · rw [List.mem_singleton] at hf; subst hf; exact (mem_getR linS hr).1 hc
  · rw [List.map_append, List.nodup_append]
    refine ⟨h.nod, by simp, ?_⟩
    intro a ha b hb e
    simp at hb
    subst hb
    exact hnx (e ▸ ha)
  · show (left (klS k) && !(klS k).sameKey (klS x)) = true ↔ _
    rw [Bool.and_eq_true, h.left k, same_iff]
    by_cases e : k = x
    · subst e; simp
    · simp [e]
theorem Coll.done {l out : VL} {left : Lit → Bool} (hr : Ris ltS l) (h : Coll l out left) (hd : ∀ kl, left kl = false) : out.Perm l := by
  have h1 : out.Nodup := by
    have := h.nod
    unfold List.Nodup at this ⊢
    rw [List.pairwise_map] at this
    exact this.imp (fun hne e => hne (by rw [e]))
  have h2 : l.Nodup := by
    have := hr.nodup linS
    unfold List.Nodup at this ⊢
    rw [List.pairwise_map] at this
    exact this.imp (fun hne e => hne (by rw [e]))
  refine (List.perm_ext_iff_of_nodup h1 h2).2 fun f => ⟨h.sub f, fun hf => ?_⟩
  have hg := (mem_getR linS hr (k := f.1) (x := f.2)).2 hf
  have hm : f.1 ∈ out.map Prod.fst := by
    rcases Classical.em (f.1 ∈ out.map Prod.fst) with hm | hm
    · exact hm
    · have := (h.left f.1).2 ⟨by rw [hg]; rfl, hm⟩
      rw [hd] at this; cases this
  obtain ⟨g, hgm, hge⟩ := List.mem_map.1 hm
  have hgl := h.sub g hgm
  have h3 := (mem_getR linS hr (k := g.1) (x := g.2)).2 hgl
  rw [hge, hg] at h3
  injection h3 with h3
  have : g = f := by
    cases g; cases f
    simp only at hge h3
    rw [hge, h3]
  rw [← this]; exact hgm
theorem str_keyS {key : Value} {kl : Lit} (h : keyOf Tryz.prog 9 key = some kl) : ∃ x : ByteArray, key = .string x ∧ kl = klS x ∧ okk x := by
  cases key <;> simp [keyOf, Tryz.underlying9, mapKey] at h
  case string s =>
    obtain ⟨h1, h2⟩ := h
    exact ⟨s, rfl, h2.symm, h1⟩
end Go.Proofs.YtgmnnpbbiejbnaaGreat.SpB
set_option maxRecDepth 100000
set_option linter.unusedSimpArgs false
set_option linter.unusedVariables false
namespace Go.Proofs.YtgmnnpbbiejbnaaGreat.SpC
open Go.RowKit Go.Proofs.YtgmnnpbbiejbnaaGreat.Mem Go.Proofs.YtgmnnpbbiejbnaaGreat.VaC Go.Proofs.YtgmnnpbbiejbnaaGreat.VaE Go.Proofs.YtgmnnpbbiejbnaaGreat.VaH Go.Proofs.YtgmnnpbbiejbnaaGreat.VaI Go.Proofs.YtgmnnpbbiejbnaaGreat.VaX Go.Proofs.YtgmnnpbbiejbnaaGreat.DuA Go.Proofs.YtgmnnpbbiejbnaaGreat.SpA Go.Proofs.YtgmnnpbbiejbnaaGreat.SpB

abbrev lt : ByteArray → ByteArray → Bool := DuB.ltS
/-- A value's content. -/
structure PV where
  kind : Int
  text : ByteArray
  list : List ByteArray
  flds : List (ByteArray × ByteArray)
  rank : List (ByteArray × Int)
deriving DecidableEq
def pvOf (x : VV) : PV := ⟨x.kind, x.text, x.list, x.flds, x.rank⟩
/-- A value of that content, at no place. -/
def PV.vv (p : PV) : VV := ⟨p.kind, p.text, none, p.list.length, p.list.length, p.list, none, p.flds.length, p.flds.length, p.flds, none, p.rank.length, p.rank.length, p.rank⟩
def pv0 : PV := ⟨0, ⟨#[]⟩, [], [], []⟩
theorem pv_same {x y : VV} : sameV x y = decide (pvOf x = pvOf y) := by
  unfold sameV pvOf
  congr 1
  simp
theorem rds_len {w : World} {A : Option Addr} {n c : Nat} {l : List ByteArray} (h : RdS w A n c l) : l.length = n := by
  have := h.len; unfold strs at this; simpa using this
theorem flds_len (l : List (ByteArray × ByteArray)) : (flds l).length = l.length * 2 := by
  induction l with
  | nil => rfl
  | cons e r ih => simp only [flds, List.flatMap_cons, List.length_append, List.length_cons, List.length_nil] at ih ⊢; omega
theorem rnks_len (l : List (ByteArray × Int)) : (rnks l).length = l.length * 2 := by
  induction l with
  | nil => rfl
  | cons e r ih => simp only [rnks, List.flatMap_cons, List.length_append, List.length_cons, List.length_nil] at ih ⊢; omega
theorem rdf_len {w : World} {A : Option Addr} {n c : Nat} {l : List (ByteArray × ByteArray)} (h : RdF w A n c l) : l.length = n := by
  have := h.len; rw [flds_len] at this; omega
theorem rdk_len {w : World} {A : Option Addr} {n c : Nat} {l : List (ByteArray × Int)} (h : RdK w A n c l) : l.length = n := by
  have := h.len; rw [rnks_len] at this; omega
def chkP (p : PV) : Int := chk p.vv
def encP (p : PV) : List UInt8 := encV p.vv
theorem chk_pv {w : World} {x : VV} (h : RdV w x) : chk x = chkP (pvOf x) := by
  have h1 := rds_len h.l
  have h2 := rdf_len h.f
  have h3 := rdk_len h.k
  unfold chkP chk isK strayV emptyV rightV PV.vv pvOf
  simp only [h1, h2, h3]
theorem enc_pv {w : World} {x : VV} (h : RdV w x) : encV x = encP (pvOf x) := by
  have h0 := chk_pv h
  have h1 := rds_len h.l
  have h2 := rdf_len h.f
  have h3 := rdk_len h.k
  unfold chkP at h0
  unfold encP encV bodyV kindB
  rw [h0]
  unfold PV.vv pvOf
  simp only [h1, h2, h3]
/-- Sizes in bounds. -/
def SmP (p : PV) : Prop := Sm p.vv
theorem sm_pv {w : World} {x : VV} (h : RdV w x) : Sm x ↔ SmP (pvOf x) := by
  have h1 := rds_len h.l
  have h2 := rdf_len h.f
  have h3 := rdk_len h.k
  unfold SmP
  constructor
  · intro s
    exact ⟨s.t, by show x.list.length ≤ _; rw [h1]; exact s.ln, by show x.flds.length ≤ _; rw [h2]; exact s.fn, by show x.rank.length ≤ _; rw [h3]; exact s.kn, s.s, s.f, s.k, s.z⟩
  · intro s
    exact ⟨s.t, by rw [← h1]; exact s.ln, by rw [← h2]; exact s.fn, by rw [← h3]; exact s.kn, s.s, s.f, s.k, s.z⟩

/-- What a key has. -/
structure PH where
  v : PV
  due : Int
  ver : Nat
deriving DecidableEq
def ph0 : PH := ⟨pv0, 0, 0⟩
/-- An effect. -/
structure PE where
  kind : Int
  key : ByteArray
  v : PV
  due : Int
deriving DecidableEq
structure PS where
  l : List (ByteArray × PH)
  cnt : Nat
  on : Bool
  bf : List (ByteArray × PH)
  at_ : Nat
  ch : List PE
  ld : Bool
def ps0 : PS := ⟨[], 0, false, [], 0, [], false⟩
def tickB (n : Int) : Bool := decide (0 ≤ n ∧ n ≤ 9007199254740992)
def bfT (s : PS) (k : ByteArray) : List (ByteArray × PH) := if s.on = true ∧ (getK s.bf k).isSome = false then setK lt s.bf k ((getK s.l k).getD ph0) else s.bf
def touchP (s : PS) (k : ByteArray) : PS := { s with cnt := s.cnt + 1, bf := bfT s k }
def noteP (s : PS) (e : PE) : PS := { s with ch := if s.on then s.ch ++ [e] else s.ch }
def putP (s : PS) (k : ByteArray) (v : PV) (due : Int) : PS := noteP { touchP s k with l := setK lt s.l k ⟨v, due, s.cnt + 1⟩ } ⟨1, k, v, due⟩
def putE (v : PV) (due : Int) : Int := if chkP v ≠ 0 then chkP v else if tickB due then 0 else 70
def putS (s : PS) (k : ByteArray) (v : PV) (due : Int) : PS := if putE v due = 0 then putP s k v due else s
def dropP (s : PS) (k : ByteArray) : PS := noteP { touchP s k with l := dropK s.l k } ⟨2, k, pv0, 0⟩
def dropS (s : PS) (k : ByteArray) : PS := if (getK s.l k).isSome then dropP s k else s
def dueP (s : PS) (k : ByteArray) (h : PH) (due : Int) : PS := noteP { touchP s k with l := setK lt s.l k ⟨h.v, due, s.cnt + 1⟩ } ⟨3, k, pv0, due⟩
def dueB (s : PS) (k : ByteArray) (due : Int) : Bool := tickB due && (getK s.l k).isSome
def dueS (s : PS) (k : ByteArray) (due : Int) : PS := if tickB due then (match getK s.l k with | none => s | some h => dueP s k h due) else s
/-- All keys of a list are let go, one behind the other. -/
def goneP (s : PS) (k : ByteArray) : PS := { touchP s k with l := dropK s.l k }
def clearS (s : PS) : PS := if s.l = [] then s else noteP ((s.l.map (·.1)).foldl goneP s) ⟨4, ⟨#[]⟩, pv0, 0⟩
def markS (s : PS) : PS := if s.on then s else { s with on := true, at_ := s.cnt, bf := [], ch := [] }
def endP (s : PS) : PS := { s with on := false, bf := [], ch := [] }
def keepS (s : PS) : PS := if s.on then endP s else s
/-- A key as it was at the mark. -/
def backK (l : List (ByteArray × PH)) (e : ByteArray × PH) : List (ByteArray × PH) := if e.2.ver = 0 then dropK l e.1 else setK lt l e.1 e.2
def backS (s : PS) : PS := if s.on then endP { s with l := s.bf.foldl backK s.l, cnt := s.at_ } else s
def overB (due now : Int) : Bool := due != 0 && decide (due ≤ now)


section
variable {α : Type} (c : α → List Value) (n : Nat)
def rows (l : List α) : List Value := l.flatMap c
variable {c n}
theorem rows_len (hc : ∀ a, (c a).length = n) (l : List α) : (rows c l).length = l.length * n := by
  induction l with
  | nil => simp [rows]
  | cons e r ih =>
    have := hc e
    simp only [rows, List.flatMap_cons, List.length_append, List.length_cons] at ih ⊢
    rw [ih, this, Nat.add_mul, Nat.one_mul, Nat.add_comm]
theorem rows_app (a b : List α) : rows c (a ++ b) = rows c a ++ rows c b := by simp [rows]
theorem rows_get (hc : ∀ a, (c a).length = n) : ∀ (l : List α) (i : Nat) (a : α), l[i]? = some a → ∀ j u, (c a)[j]? = some u → (rows c l)[i * n + j]? = some u
  | [], i, a, h => by simp at h
  | y :: r, 0, a, h => by
    simp at h; subst h
    intro j u hj
    simp only [rows, List.flatMap_cons, Nat.zero_mul, Nat.zero_add]
    rw [List.getElem?_append_left (List.getElem?_eq_some_iff.1 hj).1]; exact hj
  | y :: r, i + 1, a, h => by
    intro j u hj
    have ih := rows_get hc r i a (by simpa using h) j u hj
    simp only [rows, List.flatMap_cons] at ih ⊢
    rw [List.getElem?_append_right (by rw [hc, Nat.add_mul, Nat.one_mul]; omega), hc, show (i + 1) * n + j - n = i * n + j by rw [Nat.add_mul, Nat.one_mul]; omega]
    exact ih
theorem rd_rows_len {w : World} {A : Option Addr} {m k : Nat} {l : List α} (hc : ∀ a, (c a).length = n) (hn : 0 < n) (h : Rd w n A m k (rows c l)) : l.length = m := by
  have := h.len
  rw [rows_len hc] at this
  exact Nat.eq_of_mul_eq_mul_right hn this
theorem rd_rows_get {w : World} {A : Option Addr} {m k : Nat} {l : List α} (hc : ∀ a, (c a).length = n) (h : Rd w n A m k (rows c l)) {i : Nat} {a : α} (hi : l[i]? = some a) (h0 : 0 < n) :
    ∃ p, A = some p ∧ ∀ j u, (c a)[j]? = some u → w.cell? ((p.add (i * n)).add j) = some u := by
  have hne : rows c l ≠ [] := by
    intro e
    have hl := rows_len hc l
    rw [e] at hl
    have := (List.getElem?_eq_some_iff.1 hi).1
    have : 0 < l.length * n := Nat.mul_pos (by omega) h0
    simp at hl; omega
  obtain ⟨p, rfl, hp⟩ := h.some_ hne
  exact ⟨p, rfl, fun j u hj => by rw [add_add]; exact hp _ _ (rows_get hc l i a hi j u hj)⟩
end
end Go.Proofs.YtgmnnpbbiejbnaaGreat.SpC
set_option maxRecDepth 100000
set_option linter.unusedSimpArgs false
set_option linter.unusedVariables false
namespace Go.Proofs.YtgmnnpbbiejbnaaGreat.SpD
open Go.RowKit Go.Proofs.YtgmnnpbbiejbnaaGreat.Mem Go.Proofs.YtgmnnpbbiejbnaaGreat.VaC Go.Proofs.YtgmnnpbbiejbnaaGreat.VaE Go.Proofs.YtgmnnpbbiejbnaaGreat.VaH Go.Proofs.YtgmnnpbbiejbnaaGreat.VaI Go.Proofs.YtgmnnpbbiejbnaaGreat.VaX Go.Proofs.YtgmnnpbbiejbnaaGreat.DuA Go.Proofs.YtgmnnpbbiejbnaaGreat.SpA Go.Proofs.YtgmnnpbbiejbnaaGreat.SpB Go.Proofs.YtgmnnpbbiejbnaaGreat.SpC
open Go.Proofs.YtgmnnpbbiejbnaaGreat.DsH (Ix IxS okk keyed key_of)

def hval (x : VV) (due : Int) (ver : Nat) : Value := .agg #[.int .i64 x.kind, .string x.text, .slice x.LA x.ln x.lc, .slice x.FA x.fn x.fc, .slice x.KA x.kn x.kc, .int .i64 due, .int .u64 ver]
def hcells (x : VV) (due : Int) (ver : Nat) : Array Value := #[.int .i64 x.kind, .string x.text, .slice x.LA x.ln x.lc, .slice x.FA x.fn x.fc, .slice x.KA x.kn x.kc, .int .i64 due, .int .u64 ver]
def vv0 : VV := ⟨0, ⟨#[]⟩, none, 0, 0, [], none, 0, 0, [], none, 0, 0, []⟩
def hz : Value := .agg #[.int .i64 0, .string ⟨#[]⟩, .slice none 0 0, .slice none 0 0, .slice none 0 0, .int .i64 0, .int .u64 0]
theorem zero_held (w : World) : (zeroValue 97).run Tryz.prog w = .ok hz w := Tryz.zeroValue97 w

/-- Nothing that the value reads lies in S. -/
def Out (S : Nat → Prop) (x : VV) : Prop :=
  (∀ ad, x.LA = some ad → x.list ≠ [] → ¬ S ad.block) ∧ (∀ ad, x.FA = some ad → x.flds ≠ [] → ¬ S ad.block) ∧ (∀ ad, x.KA = some ad → x.rank ≠ [] → ¬ S ad.block)
structure Vok (w : World) (S : Nat → Prop) (x : VV) (p : PV) : Prop where
  rd : RdV w x
  out : Out S x
  pv : pvOf x = p
  sm : SmP p
theorem rd_move {w w' : World} {sz n c : Nat} {A : Option Addr} {l : List Value} {S : Nat → Prop} (h : Rd w sz A n c l) (ho : Only S w w') (hs : ∀ ad, A = some ad → l ≠ [] → ad.block < w.heap.size → ¬ S ad.block) : Rd w' sz A n c l := by
  by_cases hl : l = []
  · subst hl
    exact ⟨h.len, h.cap, h.big, fun j x hx => by simp at hx⟩
  · obtain ⟨ad', e', hlt⟩ := h.lt hl
    exact h.only ho (fun ad e => hs ad e hl (by rw [e] at e'; injection e' with e'; subst e'; exact hlt))
theorem strs_ne {l : List ByteArray} (h : strs l ≠ []) : l ≠ [] := fun e => h (by rw [e]; rfl)
theorem flds_ne {l : List (ByteArray × ByteArray)} (h : flds l ≠ []) : l ≠ [] := fun e => h (by rw [e]; rfl)
theorem rnks_ne {l : List (ByteArray × Int)} (h : rnks l ≠ []) : l ≠ [] := fun e => h (by rw [e]; rfl)
theorem ne_strs {l : List ByteArray} (h : l ≠ []) : strs l ≠ [] := fun e => h (by cases l; rfl; simp [strs] at e)
theorem ne_flds {l : List (ByteArray × ByteArray)} (h : l ≠ []) : flds l ≠ [] := fun e => h (by cases l; rfl; simp [flds] at e)
theorem ne_rnks {l : List (ByteArray × Int)} (h : l ≠ []) : rnks l ≠ [] := fun e => h (by cases l; rfl; simp [rnks] at e)
section
variable {w w' : World} {S S1 S' : Nat → Prop} {x : VV} {p : PV}
theorem Vok.move (h : Vok w S x p) (ho : Only S1 w w') (h1 : ∀ k, k < w.heap.size → S1 k → S k) (h2 : ∀ k, k < w.heap.size → S' k → S k) : Vok w' S' x p := by
  obtain ⟨⟨rl, rf, rk⟩, ⟨ol, of, ok⟩, hp, hs⟩ := h
  refine ⟨⟨?_, ?_, ?_⟩, ⟨?_, ?_, ?_⟩, hp, hs⟩
  · exact rd_move rl ho (fun ad e hn hlt hS => ol ad e (strs_ne hn) (h1 _ hlt hS))
  · exact rd_move rf ho (fun ad e hn hlt hS => of ad e (flds_ne hn) (h1 _ hlt hS))
  · exact rd_move rk ho (fun ad e hn hlt hS => ok ad e (rnks_ne hn) (h1 _ hlt hS))
  · intro ad e hn hS
    obtain ⟨ad', e', hlt⟩ := Rd.lt rl (ne_strs hn)
    rw [e] at e'; injection e' with e'; subst e'
    exact ol ad e hn (h2 _ hlt hS)
  · intro ad e hn hS
    obtain ⟨ad', e', hlt⟩ := Rd.lt rf (ne_flds hn)
    rw [e] at e'; injection e' with e'; subst e'
    exact of ad e hn (h2 _ hlt hS)
  · intro ad e hn hS
    obtain ⟨ad', e', hlt⟩ := Rd.lt rk (ne_rnks hn)
    rw [e] at e'; injection e' with e'; subst e'
    exact ok ad e hn (h2 _ hlt hS)
theorem Vok.below (h : Vok w S x p) (hb : Below w.heap.size w w') : Vok w' S x p := h.move (Only.of_below hb) (fun k hk hS => by omega) (fun k _ hS => hS)
/-- A value in memory that is newer than S. -/
theorem Vok.new {B : Nat} (hr : RdV w x) (hp : pvOf x = p) (hs : SmP p) (hn : VaT.Nw B x.LA ∧ VaT.Nw B x.FA ∧ VaT.Nw B x.KA) (hS : ∀ k, S k → k < B) : Vok w S x p :=
  ⟨hr, ⟨fun ad e _ h => by have := hn.1 ad e; have := hS _ h; omega, fun ad e _ h => by have := hn.2.1 ad e; have := hS _ h; omega, fun ad e _ h => by have := hn.2.2 ad e; have := hS _ h; omega⟩, hp, hs⟩
theorem vok0 (w : World) (S : Nat → Prop) : Vok w S vv0 pv0 := by
  refine ⟨⟨Rd.nil _ _, Rd.nil _ _, Rd.nil _ _⟩, ⟨(fun ad e => by cases e), (fun ad e => by cases e), (fun ad e => by cases e)⟩, rfl, ?_⟩
  exact ⟨by decide, by decide, by decide, by decide, by decide, by decide, by decide, fun y hy => by cases hy⟩
def RdH (w : World) (S : Nat → Prop) (u : Value) (p : PH) : Prop := ∃ x, u = hval x p.due p.ver ∧ Vok w S x p.v
theorem RdH.move {u : Value} {p : PH} (h : RdH w S u p) (ho : Only S1 w w') (h1 : ∀ k, k < w.heap.size → S1 k → S k) (h2 : ∀ k, k < w.heap.size → S' k → S k) : RdH w' S' u p := by
  obtain ⟨x, rfl, hv⟩ := h
  exact ⟨x, rfl, hv.move ho h1 h2⟩
theorem rdh0 (w : World) (S : Nat → Prop) : RdH w S hz ph0 := ⟨vv0, rfl, vok0 w S⟩
def Tel (w : World) (S : Nat → Prop) (L : VL) (l : List (ByteArray × PH)) : Prop := ∀ k, (getK L k = none ↔ getK l k = none) ∧ ∀ p, getK l k = some p → ∃ u, getK L k = some u ∧ RdH w S u p
theorem Tel.move {L : VL} {l : List (ByteArray × PH)} (h : Tel w S L l) (ho : Only S1 w w') (h1 : ∀ k, k < w.heap.size → S1 k → S k) (h2 : ∀ k, k < w.heap.size → S' k → S k) : Tel w' S' L l :=
  fun k => ⟨(h k).1, fun p hp => by obtain ⟨u, e, hu⟩ := (h k).2 p hp; exact ⟨u, e, hu.move ho h1 h2⟩⟩
theorem Tel.nil : Tel w S [] [] := fun k => ⟨by simp [getK], fun p hp => by simp [getK] at hp⟩
theorem Tel.set {L : VL} {l : List (ByteArray × PH)} (h : Tel w S L l) (k : ByteArray) {u : Value} {p : PH} (hu : RdH w S u p) : Tel w S (setK lt L k u) (setK lt l k p) := by
  intro k'
  rw [get_set, get_set]
  by_cases e : k' = k
  · rw [if_pos e, if_pos e]
    exact ⟨by simp, fun q hq => by injection hq with hq; subst hq; exact ⟨u, rfl, hu⟩⟩
  · rw [if_neg e, if_neg e]; exact h k'
theorem Tel.drop {L : VL} {l : List (ByteArray × PH)} (h : Tel w S L l) (k : ByteArray) : Tel w S (dropK L k) (dropK l k) := by
  intro k'
  rw [SpA.get_drop, SpA.get_drop]
  by_cases e : k' = k
  · rw [if_pos e, if_pos e]; exact ⟨by simp, fun q hq => by cases hq⟩
  · rw [if_neg e, if_neg e]; exact h k'
theorem Tel.is {L : VL} {l : List (ByteArray × PH)} (h : Tel w S L l) (k : ByteArray) : (getK L k).isSome = (getK l k).isSome := by
  have := (h k).1
  cases h1 : getK L k <;> cases h2 : getK l k <;> simp_all
/-- What is looked up. -/
theorem Tel.at0 {L : VL} {l : List (ByteArray × PH)} (h : Tel w S L l) (k : ByteArray) : RdH w S ((getK L k).getD hz) ((getK l k).getD ph0) := by
  cases h2 : getK l k with
  | none => rw [(h k).1.2 h2]; exact rdh0 _ _
  | some p =>
    obtain ⟨u, e, hu⟩ := (h k).2 p h2
    rw [e]; exact hu
theorem Tel.keys {L : VL} {l : List (ByteArray × PH)} (h : Tel w S L l) (hL : Ris lt L) (hl : Ris lt l) : L.map (·.1) = l.map (·.1) := by
  have e : mapV (fun _ => ()) L = mapV (fun _ => ()) l := by
    refine ris_ext DuB.linS (map_ris.2 hL) (map_ris.2 hl) (fun k => ?_)
    rw [map_get, map_get]
    have := h.is k
    cases h1 : getK L k <;> cases h2 : getK l k <;> simp_all
  have := congrArg (List.map (·.1)) e
  rwa [map_keys, map_keys] at this
theorem Tel.len {L : VL} {l : List (ByteArray × PH)} (h : Tel w S L l) (hL : Ris lt L) (hl : Ris lt l) : L.length = l.length := by
  have := congrArg List.length (h.keys hL hl)
  simpa using this
end

/-- An effect as it lies. -/
structure EV where
  kind : Int
  key : ByteArray
  x : VV
  due : Int
def EV.cells (e : EV) : List Value := [.int .i64 e.kind, .string e.key, .int .i64 e.x.kind, .string e.x.text, .slice e.x.LA e.x.ln e.x.lc, .slice e.x.FA e.x.fn e.x.fc, .slice e.x.KA e.x.kn e.x.kc, .int .i64 e.due]
theorem ev_len (e : EV) : e.cells.length = 8 := rfl
theorem ev_one (e : EV) : ∀ u ∈ e.cells, u.oneCell' = true := by
  intro u hu
  simp only [EV.cells, List.mem_cons, List.not_mem_nil, or_false] at hu
  rcases hu with rfl | rfl | rfl | rfl | rfl | rfl | rfl | rfl <;> rfl
def RdEv (w : World) (S : Nat → Prop) (e : EV) (p : PE) : Prop := e.kind = p.kind ∧ e.key = p.key ∧ e.due = p.due ∧ Vok w S e.x p.v
def EVs (w : World) (S : Nat → Prop) (es : List EV) (ch : List PE) : Prop := es.length = ch.length ∧ ∀ (i : Nat) (e : EV) (p : PE), es[i]? = some e → ch[i]? = some p → RdEv w S e p
theorem EVs.move {w w' : World} {S S1 S' : Nat → Prop} {es : List EV} {ch : List PE} (h : EVs w S es ch) (ho : Only S1 w w') (h1 : ∀ k, k < w.heap.size → S1 k → S k) (h2 : ∀ k, k < w.heap.size → S' k → S k) : EVs w' S' es ch :=
  ⟨h.1, fun i e p he hp => let r := h.2 i e p he hp; ⟨r.1, r.2.1, r.2.2.1, r.2.2.2.move ho h1 h2⟩⟩
theorem EVs.nil {w : World} {S : Nat → Prop} : EVs w S [] [] := ⟨rfl, fun i e p he => by simp at he⟩
theorem EVs.push {w : World} {S : Nat → Prop} {es : List EV} {ch : List PE} (h : EVs w S es ch) {e : EV} {p : PE} (he : RdEv w S e p) : EVs w S (es ++ [e]) (ch ++ [p]) := by
  refine ⟨by simp [h.1], fun i a b ha hb => ?_⟩
  rcases Nat.lt_or_ge i es.length with hi | hi
  · rw [List.getElem?_append_left hi] at ha
    rw [List.getElem?_append_left (h.1 ▸ hi)] at hb
    exact h.2 i a b ha hb
  · have h2 := h.1
    rw [List.getElem?_append_right hi] at ha
    rw [List.getElem?_append_right (by omega)] at hb
    have : i - es.length = 0 := by
      rcases Nat.eq_zero_or_pos (i - es.length) with h0 | h0
      · exact h0
      · simp [List.getElem?_singleton] at ha; omega
    rw [this] at ha
    rw [← h2, this] at hb
    simp at ha hb
    subst ha hb
    exact he
theorem elEv : El Tryz.prog 22 44 (.agg #[.int .i64 0, .string ⟨#[]⟩, .int .i64 0, .string ⟨#[]⟩, .slice none 0 0, .slice none 0 0, .slice none 0 0, .int .i64 0]) 8 128 := by
  obtain ⟨i, h1, h2, h3, h4⟩ := info_parts (show (Tryz.prog.info? 44).map (fun i => (i.zero, i.size, i.bytes)) = some (some (.agg #[.int .i64 0, .string ⟨#[]⟩, .int .i64 0, .string ⟨#[]⟩, .slice none 0 0, .slice none 0 0, .slice none 0 0, .int .i64 0]), 8, 128) by kernel_rfl)
  exact ⟨Tryz.underlying22, ⟨i, h1, h2, h3, h4⟩, rfl, by decide⟩
abbrev OwnEv (w : World) (B : Nat) (v : Value) (es : List EV) : Prop := w.ownsRow B 44 8 v es.length (rows EV.cells es)

/-- Where a space lies. -/
structure Lay where
  g : Nat
  m : Nat
  gd : Nat
  md : Nat
  vd : Value
  bm : Option Nat
  cv : Value
  X : Nat → Prop
def Ft (F : Lay) (k : Nat) : Prop := k = F.g ∨ k = F.m ∨ IxS F.gd F.md F.vd k ∨ F.bm = some k ∨ F.cv.ownBlock = some k
/-- .. and what its values keep away from besides. -/
def Fx (F : Lay) (k : Nat) : Prop := Ft F k ∨ F.X k
structure Apart (F : Lay) : Prop where
  gm : F.g ≠ F.m
  gx : ∀ k, IxS F.gd F.md F.vd k → k ≠ F.g ∧ k ≠ F.m ∧ F.bm ≠ some k ∧ F.cv.ownBlock ≠ some k
  gb : F.bm ≠ some F.g ∧ F.bm ≠ some F.m
  gc : F.cv.ownBlock ≠ some F.g ∧ F.cv.ownBlock ≠ some F.m
  bc : ∀ b, F.bm = some b → F.cv.ownBlock ≠ some b
/-- What holds of a space's content. -/
structure Inv (s : PS) : Prop where
  ris : Ris lt s.l
  risb : Ris lt s.bf
  key : ∀ e ∈ s.l, e.1.size ≤ 100000000
  keyb : ∀ e ∈ s.bf, e.1.size ≤ 100000000
  due : ∀ e ∈ s.l, 0 ≤ e.2.due ∧ e.2.due ≤ 9007199254740992
  dueb : ∀ e ∈ s.bf, 0 ≤ e.2.due ∧ e.2.due ≤ 9007199254740992
  ver : ∀ e ∈ s.l, 1 ≤ e.2.ver ∧ (s.ld = true ∨ e.2.ver ≤ s.cnt)
  verb : ∀ e ∈ s.bf, e.2.ver ≤ s.at_
  atc : s.on = true → s.at_ ≤ s.cnt
  chk : ∀ e ∈ s.l, chkP e.2.v = 0
  chkb : ∀ e ∈ s.bf, e.2.ver ≠ 0 → chkP e.2.v = 0
  unt : s.on = true → ∀ e ∈ s.l, (getK s.bf e.1).isSome = false → e.2.ver ≤ s.at_
structure Sq (w : World) (B : Nat) (F : Lay) (N : Nat) (l bf : List (ByteArray × PH)) (ch : List PE) : Prop where
  mp : ∃ L, Mv w F.m N L ∧ Tel w (Fx F) L l
  ix : Ix w B F.gd F.md F.vd (duesOf lt PH.due l) N
  bp : (F.bm = none ∧ bf = []) ∨ ∃ b, F.bm = some b ∧ B ≤ b ∧ ∃ L, Mv w b N L ∧ Tel w (Fx F) L bf
  ch : ∃ es, OwnEv w B F.cv es ∧ EVs w (Fx F) es ch
  gB : B ≤ F.g
  mB : B ≤ F.m
  ap : Apart F
structure Sp (w : World) (B : Nat) (F : Lay) (N : Nat) (s : PS) : Prop where
  hp : w.heap[F.g]? = some (.cells #[.map (some F.m), .pointer (some ⟨F.gd, 0, none⟩), .int .u64 s.cnt, .bool s.on, .map F.bm, .int .u64 s.at_, F.cv] 90 (0, 0))
  sq : Sq w B F N s.l s.bf s.ch
  on : s.on = F.bm.isSome
  inv : Inv s
section
variable {w w' : World} {B : Nat} {F : Lay} {N : Nat} {s : PS} {l bf : List (ByteArray × PH)} {ch : List PE} {S1 : Nat → Prop}
theorem Sq.only (h : Sq w B F N l bf ch) (ho : Only S1 w w') (h1 : ∀ k, Ft F k → k ≠ F.g → ¬ S1 k) (h2 : ∀ k, k < w.heap.size → S1 k → Fx F k) : Sq w' B F N l bf ch := by
  obtain ⟨⟨L, hm, ht⟩, ix, bp, ⟨es, oe, he⟩, gB, mB, ap⟩ := h
  refine ⟨⟨L, hm.only ho (h1 _ (.inr (.inl rfl)) (fun e => ap.gm e.symm)), ht.move ho h2 (fun k _ hk => hk)⟩, ix.only ho (fun k hk => h1 k (.inr (.inr (.inl hk))) (ap.gx k hk).1), ?_, ⟨es, own_only oe ho (fun k hk => h1 k (.inr (.inr (.inr (.inr hk)))) (fun e => ap.gc.1 (e ▸ hk))), he.move ho h2 (fun k _ hk => hk)⟩, gB, mB, ap⟩
  rcases bp with bp | ⟨b, e, hb, L2, hm2, ht2⟩
  · exact .inl bp
  · exact .inr ⟨b, e, hb, L2, hm2.only ho (h1 b (.inr (.inr (.inr (.inl e)))) (fun e' => ap.gb.1 (e' ▸ e))), ht2.move ho h2 (fun k _ hk => hk)⟩
theorem Sq.lt (h : Sq w B F N l bf ch) : ∀ k, Ft F k → k ≠ F.g → B ≤ k ∧ k < w.heap.size := by
  intro k hk hg
  rcases hk with rfl | rfl | hk | hk | hk
  · exact absurd rfl hg
  · obtain ⟨L, hm, _⟩ := h.mp
    exact ⟨h.mB, hm.lt⟩
  · exact h.ix.lt k hk
  · rcases h.bp with ⟨e, _⟩ | ⟨b, e, hb, L2, hm2, _⟩
    · rw [e] at hk; cases hk
    · rw [e] at hk; injection hk with hk; subst hk; exact ⟨hb, hm2.lt⟩
  · obtain ⟨es, oe, _⟩ := h.ch
    exact oe.lt k hk
theorem Sp.glt (h : Sp w B F N s) : F.g < w.heap.size := (Array.getElem?_eq_some_iff.1 h.hp).1
theorem Sp.lt (h : Sp w B F N s) : ∀ k, Ft F k → B ≤ k ∧ k < w.heap.size := by
  intro k hk
  by_cases e : k = F.g
  · subst e; exact ⟨h.sq.gB, h.glt⟩
  · exact h.sq.lt k hk e
theorem Sp.below (h : Sp w B F N s) (hb : Below w.heap.size w w') : Sp w' B F N s :=
  ⟨(hb.block _ h.glt).trans h.hp, h.sq.only (Only.of_below hb) (fun k hk _ hS => by have := (h.lt k hk).2; omega) (fun k hk hS => by omega), h.on, h.inv⟩
theorem below_drawn_' {w w' : World} {B : Nat} (h : Below B w w') (n : Nat) : Below B w (w'.drewN n) := ⟨h.os, h.tape, h.output, h.size, h.block⟩
theorem Sp.drawn (h : Sp w B F N s) (n : Nat) : Sp (w.drewN n) B F N s := h.below (below_drawn_' (Below.refl _ _) n)
theorem Sp.cells (h : Sp w B F N s) : w.cell? ⟨F.g, 0, none⟩ = some (.map (some F.m)) ∧ w.cell? ⟨F.g, 1, none⟩ = some (.pointer (some ⟨F.gd, 0, none⟩)) ∧ w.cell? ⟨F.g, 2, none⟩ = some (.int .u64 s.cnt) ∧ w.cell? ⟨F.g, 3, none⟩ = some (.bool s.on) ∧
    w.cell? ⟨F.g, 4, none⟩ = some (.map F.bm) ∧ w.cell? ⟨F.g, 5, none⟩ = some (.int .u64 s.at_) ∧ w.cell? ⟨F.g, 6, none⟩ = some F.cv := by
  have h1 := h.hp
  refine ⟨?_, ?_, ?_, ?_, ?_, ?_, ?_⟩ <;> simp [World.cell?, h1]
theorem Sp.free (h : Sp w B F N s) (j : Nat) : w.frozen? ⟨F.g, j, none⟩ = false := by
  have h1 := h.hp
  simp [World.frozen?, h1]
theorem Sp.more (h : Sp w B F N s) {N' : Nat} (hN : N ≤ N') : Sp w B F N' s := by
  obtain ⟨L, hm, ht⟩ := h.sq.mp
  obtain ⟨D, hM, hT⟩ := h.sq.ix.mp
  refine { h with sq := { h.sq with mp := ⟨L, hm.mono hN, ht⟩, ix := { h.sq.ix with mp := ⟨D, hM.mono hN, hT⟩, len := Nat.le_trans h.sq.ix.len hN }, bp := ?_ } }
  rcases h.sq.bp with bp | ⟨b, e, hb, L2, hm2, ht2⟩
  · exact .inl bp
  · exact .inr ⟨b, e, hb, L2, hm2.mono hN, ht2⟩
/-- The counter is written. -/
theorem Sp.cnt (h : Sp w B F N s) (n : Nat) (hn : Inv { s with cnt := n }) : Sp (w.setCell ⟨F.g, 2, none⟩ (.int .u64 n)) B F N { s with cnt := n } := by
  have h1 := h.hp
  have ho := (Only.refl (fun k => k = F.g) w).put (p := ⟨F.g, 2, none⟩) (.inl rfl) (.int .u64 n)
  refine ⟨by simp [World.setCell, Array.getElem?_modify, h1], h.sq.only ho (fun k _ hg e => hg e) (fun k _ e => .inl (.inl e)), h.on, hn⟩
end
/-- A space has been turned. -/
structure Moves (F F' : Lay) (w w' : World) : Prop where
  only : Only (Ft F) w w'
  sub : ∀ k, Ft F' k → Ft F k ∨ w.heap.size ≤ k
  g : F'.g = F.g
  x : F'.X = F.X
theorem Moves.refl (F : Lay) (w : World) : Moves F F w w := ⟨Only.refl _ _, fun k h => .inl h, rfl, rfl⟩
theorem Moves.trans {F F1 F' : Lay} {w w1 w' : World} (h : Moves F F1 w w1) (k : Moves F1 F' w1 w') : Moves F F' w w' :=
  ⟨h.only.trans k.only h.sub, fun b hb => by
    rcases k.sub b hb with h1 | h1
    · exact h.sub b h1
    · exact .inr (Nat.le_trans h.only.size h1), k.g.trans h.g, k.x.trans h.x⟩
theorem Moves.below {F : Lay} {w w' : World} (h : Below w.heap.size w w') : Moves F F w w' := ⟨⟨h.os, h.tape, h.output, h.size, fun k hk _ => h.block k hk⟩, fun k h => .inl h, rfl, rfl⟩
/-- More, or less, to keep away from. -/
theorem Sp.ghost {w : World} {B : Nat} {F : Lay} {N : Nat} {s : PS} (h : Sp w B F N s) {X' : Nat → Prop} (hX : ∀ k, k < w.heap.size → X' k → F.X k) : Sp w B { F with X := X' } N s := by
  have hs : ∀ k, k < w.heap.size → Fx { F with X := X' } k → Fx F k := fun k hk e => e.elim (fun e => .inl e) (fun e => .inr (hX k hk e))
  have ho : Only (fun _ => False) w w := Only.refl _ _
  obtain ⟨⟨L, hm, htl⟩, ix, bp, ⟨es, oe, he⟩, gB, mB, ap⟩ := h.sq
  refine ⟨h.hp, ⟨⟨L, hm, htl.move ho (fun k _ e => e.elim) hs⟩, ix, ?_, ⟨es, oe, he.move ho (fun k _ e => e.elim) hs⟩, gB, mB, ⟨ap.gm, ap.gx, ap.gb, ap.gc, ap.bc⟩⟩, h.on, h.inv⟩
  rcases bp with bp | ⟨b, e, hb, L2, hm2, ht2⟩
  · exact .inl bp
  · exact .inr ⟨b, e, hb, L2, hm2, ht2.move ho (fun k _ e => e.elim) hs⟩
end Go.Proofs.YtgmnnpbbiejbnaaGreat.SpD
set_option maxRecDepth 100000
set_option linter.unusedSimpArgs false
set_option linter.unusedVariables false
namespace Go.Proofs.YtgmnnpbbiejbnaaGreat.SpE
open Go.RowKit Go.Proofs.YtgmnnpbbiejbnaaGreat.Mem Go.Proofs.YtgmnnpbbiejbnaaGreat.VaC Go.Proofs.YtgmnnpbbiejbnaaGreat.VaE Go.Proofs.YtgmnnpbbiejbnaaGreat.VaH Go.Proofs.YtgmnnpbbiejbnaaGreat.VaI Go.Proofs.YtgmnnpbbiejbnaaGreat.VaX Go.Proofs.YtgmnnpbbiejbnaaGreat.DuA Go.Proofs.YtgmnnpbbiejbnaaGreat.SpA Go.Proofs.YtgmnnpbbiejbnaaGreat.SpB Go.Proofs.YtgmnnpbbiejbnaaGreat.SpC Go.Proofs.YtgmnnpbbiejbnaaGreat.SpD
open Go.Proofs.YtgmnnpbbiejbnaaGreat.DsH (Ix IxS okk keyed key_of)

theorem _root_.Go.Proofs.YtgmnnpbbiejbnaaGreat.SpD.Inv.cnt {s : PS} (h : Inv s) {n : Nat} (hn : s.cnt ≤ n) : Inv { s with cnt := n } :=
  { h with ver := fun e he => ⟨(h.ver e he).1, (h.ver e he).2.imp id (fun x => Nat.le_trans x hn)⟩, atc := fun e => Nat.le_trans (h.atc e) hn }
theorem mem_set {l : List (ByteArray × PH)} {k : ByteArray} {p : PH} {e : ByteArray × PH} (h : e ∈ setK lt l k p) : e = (k, p) ∨ e ∈ l := by
  rcases SpA.mem_ins.1 h with h | h
  · exact .inl h
  · exact .inr (SpA.mem_drop.1 h).1
theorem inv_touch {s : PS} (h : Inv s) (k : ByteArray) (hk : k.size ≤ 100000000) : Inv (touchP s k) := by
  have h2 := h.cnt (Nat.le_succ s.cnt)
  by_cases hb : s.on = true ∧ (getK s.bf k).isSome = false
  · have e : touchP s k = { s with cnt := s.cnt + 1, bf := setK lt s.bf k ((getK s.l k).getD ph0) } := by unfold touchP bfT; rw [if_pos hb]
    rw [e]
    obtain ⟨ho, hn⟩ := hb
    have hp : ((getK s.l k).getD ph0 = ph0) ∨ (k, (getK s.l k).getD ph0) ∈ s.l := by
      cases hg : getK s.l k with
      | none => exact .inl rfl
      | some p => exact .inr ((mem_getR DuB.linS h.ris).1 hg)
    refine { h2 with risb := ris_set DuB.linS h.risb k _, keyb := ?_, dueb := ?_, verb := ?_, chkb := ?_, unt := ?_ }
    · intro e he
      rcases mem_set he with rfl | he
      · exact hk
      · exact h.keyb e he
    · intro e he
      rcases mem_set he with rfl | he
      · rcases hp with hp | hp
        · rw [hp]; exact ⟨Int.le_refl 0, by show (0 : Int) ≤ _; decide⟩
        · exact h.due _ hp
      · exact h.dueb e he
    · intro e he
      rcases mem_set he with rfl | he
      · rcases hp with hp | hp
        · rw [hp]; exact Nat.zero_le _
        · exact h.unt ho _ hp hn
      · exact h.verb e he
    · intro e he
      rcases mem_set he with rfl | he
      · rcases hp with hp | hp
        · rw [hp]; exact fun e => absurd rfl e
        · exact fun _ => h.chk _ hp
      · exact h.chkb e he
    · intro _ e he hn'
      refine h.unt ho e he ?_
      show _
      have : getK (setK lt s.bf k ((getK s.l k).getD ph0)) e.1 = if e.1 = k then some ((getK s.l k).getD ph0) else getK s.bf e.1 := get_set _ _ _ _
      simp only at hn'
      rw [this] at hn'
      split at hn'
      · cases hn'
      · exact hn'
  · have e : touchP s k = { s with cnt := s.cnt + 1 } := by unfold touchP bfT; rw [if_neg hb]
    rw [e]; exact h2
theorem _root_.Go.Proofs.YtgmnnpbbiejbnaaGreat.SpD.Sp.bfset {w w5 : World} {B : Nat} {F : Lay} {N : Nat} {s : PS} (h : Sp w B F N s) {b : Nat} (hb : F.bm = some b) {L2 : VL} {k : ByteArray} {u : Value} {p : PH} (hm5 : Mv w5 b (N + 1) (setK DuB.ltS L2 k u)) (o5 : Only (fun x => x = b) w w5)
    (ht : Tel w (Fx F) L2 s.bf) (hu : RdH w (Fx F) u p) (hI : Inv { s with bf := setK lt s.bf k p }) : Sp w5 B F (N + 1) { s with bf := setK lt s.bf k p } := by
  have hF : ∀ x, x < w.heap.size → x = b → Fx F x := fun x _ e => by subst e; exact .inl (.inr (.inr (.inr (.inl hb))))
  obtain ⟨⟨L, hm, htl⟩, ix, bp, ⟨es, oe, he⟩, gB, mB, ap⟩ := h.sq
  have hB : B ≤ b := by
    rcases bp with ⟨e, _⟩ | ⟨b', e, hB, _⟩
    · rw [hb] at e; cases e
    · rw [hb] at e; injection e with e; subst e; exact hB
  obtain ⟨D, hM, hT⟩ := ix.mp
  refine ⟨o5.heap h.hp (fun e => ap.gb.1 (e ▸ hb)), ⟨⟨L, (hm.only o5 (fun e => ap.gb.2 (e ▸ hb))).mono (Nat.le_succ _), htl.move o5 hF (fun _ _ h => h)⟩, ?_, .inr ⟨b, hb, hB, _, hm5, (ht.set k hu).move o5 hF (fun _ _ h => h)⟩, ⟨es, own_only oe o5 (fun x hx e => ap.bc b hb (e ▸ hx)), he.move o5 hF (fun _ _ h => h)⟩, gB, mB, ap⟩, h.on, hI⟩
  have ix1 : Ix w B F.gd F.md F.vd (duesOf lt PH.due s.l) (N + 1) := { ix with mp := ⟨D, hM.mono (Nat.le_succ _), hT⟩, len := Nat.le_trans ix.len (Nat.le_succ _) }
  exact ix1.only o5 (fun x hx e => (ap.gx x hx).2.2.1 (e ▸ hb))
set_option maxHeartbeats 2000000 in
theorem touch_calls (B : Nat) (F : Lay) (N : Nat) (s : PS) (k : ByteArray) (w : World) (h : Sp w B F N s) (hk : k.size ≤ 100000000) (hN : N ≤ 1000000000) (hc : s.cnt ≤ 4611686218427387904) :
    Calls Tryz.prog 75 #[.pointer (some ⟨F.g, 0, none⟩), .string k] w fun e w' => e = .returned (.tuple #[]) ∧ Sp w' B F (N + 1) (touchP s k) ∧ Only (Ft F) w w' := by
  have hok : okk k := by unfold okk maxLen; omega
  obtain ⟨c0, c1, c2, c3, c4, c5, c6⟩ := h.cells
  have fr := h.free
  have h1 := h.cnt (s.cnt + 1) (h.inv.cnt (Nat.le_succ _))
  rw [Int.natCast_succ] at h1
  have o1 : Only (Ft F) w (w.setCell ⟨F.g, 2, none⟩ (.int .u64 ((s.cnt : Int) + 1))) := (Only.refl (Ft F) w).put (p := ⟨F.g, 2, none⟩) (.inl (.inl rfl)) _
  cases hm : s.on
  · rw [hm] at c3
    have e1 : touchP s k = { s with cnt := s.cnt + 1 } := by unfold touchP bfT; simp [hm]
    rw [e1]
    have H := Lib.hid (And.intro h1 o1)
    clear h h1 o1 hm e1
    go_enter Tryz.func75, Tryz.ntmps75
    go_wp2_with fail
    refine bodyPost_ret (results_none rfl _ _ _) rfl ?_
    exact ⟨rfl, H.out.1.more (Nat.le_succ _), H.out.2⟩
  · obtain ⟨b, hb, hB, L2, hm2, ht2⟩ : ∃ b, F.bm = some b ∧ B ≤ b ∧ ∃ L2, Mv (w.setCell ⟨F.g, 2, none⟩ (.int .u64 ((s.cnt : Int) + 1))) b N L2 ∧ Tel (w.setCell ⟨F.g, 2, none⟩ (.int .u64 ((s.cnt : Int) + 1))) (Fx F) L2 s.bf := by
      rcases h1.sq.bp with ⟨e, _⟩ | x
      · have := h.on; rw [hm, e] at this; cases this
      · exact x
    rw [hm] at c3
    rw [hb] at c4
    have hlk := hm2.look Tryz.underlying86 zero_held hok
    rw [ht2.is k] at hlk
    obtain ⟨x, hx, hxv⟩ := ht2.at0 k
    rw [hx] at hlk
    unfold hval at hlk
    clear hx hxv
    cases hkb : (getK s.bf k).isSome
    · rw [hkb] at hlk
      have e1 : touchP s k = { s with cnt := s.cnt + 1, bf := setK lt s.bf k ((getK s.l k).getD ph0) } := by unfold touchP bfT; simp [hm, hkb]
      have hI := inv_touch h.inv k hk
      rw [e1] at hI ⊢
      have H := Lib.hid (And.intro h1 (And.intro o1 (And.intro hm2 (And.intro ht2 hI))))
      clear h hm hkb e1 hm2 ht2 hI h1 o1
      go_enter Tryz.func75, Tryz.ntmps75
      go_wp2_with fail
      obtain ⟨W2, hW2⟩ : ∃ W2, (w.setCell ⟨F.g, 2, none⟩ (.int .u64 ((s.cnt : Int) + 1))).alloc (.cells (hcells x ((getK s.bf k).getD ph0).due ((getK s.bf k).getD ph0).ver) 97) = W2 := ⟨_, rfl⟩
      unfold hcells at hW2
      rw [hW2]
      obtain ⟨h1, o1, hm2, ht2, hI⟩ := H.out
      have b2 : Below (w.setCell ⟨F.g, 2, none⟩ (.int .u64 ((s.cnt : Int) + 1))).heap.size (w.setCell ⟨F.g, 2, none⟩ (.int .u64 ((s.cnt : Int) + 1))) W2.drew := by rw [← hW2]; exact ((Below.refl _ _).alloc (Nat.le_refl _) _).drew
      have h3 := h1.below b2
      have o3 : Only (Ft F) w W2.drew := o1.trans (Only.of_below b2) (fun k hk => .inr (Nat.le_trans o1.size hk))
      have hm3 := hm2.below b2
      have ht3 : Tel W2.drew (Fx F) L2 s.bf := ht2.move (Only.of_below b2) (fun k hk hS => by omega) (fun k _ hS => hS)
      obtain ⟨d0, -, -, -, d4, -, -⟩ := h3.cells
      rw [hb] at d4
      obtain ⟨L, hmm, htt⟩ := h3.sq.mp
      have hlk1 := hmm.look1 Tryz.underlying86 zero_held hok
      obtain ⟨u, hu⟩ : ∃ u, (getK L k).getD hz = u := ⟨_, rfl⟩
      have hru : RdH W2.drew (Fx F) u ((getK s.l k).getD ph0) := by rw [← hu]; exact htt.at0 k
      rw [hu] at hlk1
      obtain ⟨w5, hset, hm5, o5⟩ := hm3.set Tryz.underlying86 (by unfold maxLen; omega) hok u
      have H2 := Lib.hid (And.intro h3 (And.intro o3 (And.intro hm5 (And.intro o5 (And.intro ht3 (And.intro hru hI))))))
      clear h1 o1 hm2 ht2 hI b2 h3 o3 hm3 ht3 hmm htt hm5 o5 hru hu H hW2 hlk c0 c1 c2 c3 c4 c5 c6 fr
      go_region_law (fail)
      all_goals (
        refine bodyPost_end (results_none rfl _ _ _) rfl ?_
        obtain ⟨h3, o3, hm5, o5, ht3, hru, hI⟩ := H2.out
        exact ⟨rfl, h3.bfset hb hm5 o5 ht3 hru hI, o3.trans o5 (fun k hk => .inl (by subst hk; exact .inr (.inr (.inr (.inl hb)))))⟩)
    · rw [hkb] at hlk
      have e1 : touchP s k = { s with cnt := s.cnt + 1 } := by unfold touchP bfT; simp [hm, hkb]
      rw [e1]
      have H := Lib.hid (And.intro h1 o1)
      clear h hm hkb e1 hm2 ht2 h1 o1
      go_enter Tryz.func75, Tryz.ntmps75
      go_wp2_with fail
      refine bodyPost_end (results_none rfl _ _ _) rfl ?_
      have b2 := ((Below.refl _ (w.setCell ⟨F.g, 2, none⟩ (.int .u64 ((s.cnt : Int) + 1)))).alloc (Nat.le_refl _) (.cells (hcells x ((getK s.bf k).getD ph0).due ((getK s.bf k).getD ph0).ver) 97))
      exact ⟨rfl, (H.out.1.below b2).more (Nat.le_succ _), H.out.2.trans (Only.of_below b2) (fun k hk => .inr (Nat.le_trans H.out.2.size hk))⟩
theorem inv_less {s : PS} (h : Inv s) {l2 : List (ByteArray × PH)} (hr : Ris lt l2) (hs : ∀ e ∈ l2, e ∈ s.l) : Inv { s with l := l2 } :=
  { h with ris := hr, key := fun e he => h.key e (hs e he), due := fun e he => h.due e (hs e he), ver := fun e he => h.ver e (hs e he), chk := fun e he => h.chk e (hs e he), unt := fun o e he => h.unt o e (hs e he) }
theorem inv_drop {s : PS} (h : Inv s) (k : ByteArray) : Inv { s with l := dropK s.l k } := inv_less h (ris_drop h.ris k) (fun e he => (SpA.mem_drop.1 he).1)
theorem inv_set {s : PS} (h : Inv s) {k : ByteArray} {p : PH} (hk : k.size ≤ 100000000) (hd : 0 ≤ p.due ∧ p.due ≤ 9007199254740992) (hv : 1 ≤ p.ver ∧ (s.ld = true ∨ p.ver ≤ s.cnt)) (hc : chkP p.v = 0) (hu : s.on = true → (getK s.bf k).isSome = false → p.ver ≤ s.at_) : Inv { s with l := setK lt s.l k p } := by
  refine { h with ris := ris_set DuB.linS h.ris k p, key := ?_, due := ?_, ver := ?_, chk := ?_, unt := ?_ }
  · intro e he
    rcases mem_set he with rfl | he
    · exact hk
    · exact h.key e he
  · intro e he
    rcases mem_set he with rfl | he
    · exact hd
    · exact h.due e he
  · intro e he
    rcases mem_set he with rfl | he
    · exact hv
    · exact h.ver e he
  · intro e he
    rcases mem_set he with rfl | he
    · exact hc
    · exact h.chk e he
  · intro o e he
    rcases mem_set he with rfl | he
    · exact hu o
    · exact h.unt o e he
/-- The keys' map and the index have been turned. -/
theorem _root_.Go.Proofs.YtgmnnpbbiejbnaaGreat.SpD.Sp.relay {w w1 w2 : World} {B : Nat} {F : Lay} {N N' : Nat} {s : PS} (h : Sp w B F N s) {L2 : VL} {l2 : List (ByteArray × PH)} {v' : Value} (o1 : Only (fun x => x = F.m) w w1) (hm : Mv w1 F.m N' L2) (ht : Tel w (Fx F) L2 l2)
    (hx : Ix w2 B F.gd F.md v' (duesOf lt PH.due l2) N') (o2 : Only (IxS F.gd F.md F.vd) w1 w2) (hv : v'.ownBlock = F.vd.ownBlock ∨ ∃ k, v'.ownBlock = some k ∧ w1.heap.size ≤ k) (hN : N ≤ N') (hI : Inv { s with l := l2 }) :
    Sp w2 B { F with vd := v' } N' { s with l := l2 } ∧ Moves F { F with vd := v' } w w2 ∧ Only (fun k => k = F.m ∨ IxS F.gd F.md F.vd k) w w2 := by
  have o12 : Only (fun k => k = F.m ∨ IxS F.gd F.md F.vd k) w w2 := (o1.mono (fun k e => .inl e)).trans o2 (fun k e => .inl (.inr e))
  have hF : ∀ k, (k = F.m ∨ IxS F.gd F.md F.vd k) → Ft F k := fun k e => e.elim (fun e => .inr (.inl e)) (fun e => .inr (.inr (.inl e)))
  have hsub : ∀ k, Ft { F with vd := v' } k → Ft F k ∨ w.heap.size ≤ k := by
    intro k hk
    rcases hk with hk | hk | hk | hk | hk
    · exact .inl (.inl hk)
    · exact .inl (.inr (.inl hk))
    · rcases hk with hk | hk | hk
      · exact .inl (.inr (.inr (.inl (.inl hk))))
      · exact .inl (.inr (.inr (.inl (.inr (.inl hk)))))
      · rcases hv with hv | ⟨k', e, hge⟩
        · exact .inl (.inr (.inr (.inl (.inr (.inr (hv ▸ hk))))))
        · have hk' : v'.ownBlock = some k := hk
          rw [e] at hk'; injection hk' with hk'; subst hk'; exact .inr (Nat.le_trans o1.size hge)
    · exact .inl (.inr (.inr (.inr (.inl hk))))
    · exact .inl (.inr (.inr (.inr (.inr hk))))
  have hix : ∀ k, IxS F.gd F.md v' k → IxS F.gd F.md F.vd k ∨ w.heap.size ≤ k := by
    intro k hk
    rcases hk with hk | hk | hk
    · exact .inl (.inl hk)
    · exact .inl (.inr (.inl hk))
    · rcases hv with hv | ⟨k', e, hge⟩
      · exact .inl (.inr (.inr (hv ▸ hk)))
      · rw [e] at hk; injection hk with hk; subst hk; exact .inr (Nat.le_trans o1.size hge)
  have hlt := h.lt
  obtain ⟨⟨L, hmm, htl⟩, ix, bp, ⟨es, oe, he⟩, gB, mB, ap⟩ := h.sq
  have hd : ∀ k, k < w.heap.size → (k = F.m ∨ IxS F.gd F.md F.vd k) → Fx F k := fun k _ e => .inl (hF k e)
  have hs' : ∀ k, k < w.heap.size → Fx { F with vd := v' } k → Fx F k := fun k hk e => e.elim (fun e => (hsub k e).elim .inl (fun h => absurd hk (by omega))) .inr
  refine ⟨⟨o12.heap h.hp (fun e => e.elim (fun e => ap.gm e) (fun e => (ap.gx _ e).1 rfl)), ⟨⟨L2, ?_, ht.move o12 hd hs'⟩, hx, ?_, ⟨es, own_only oe o12 (fun k hk e => e.elim (fun e => ap.gc.2 (e ▸ hk)) (fun e => (ap.gx k e).2.2.2 hk)), he.move o12 hd hs'⟩, gB, mB, ⟨ap.gm, ?_, ap.gb, ap.gc, ap.bc⟩⟩, h.on, hI⟩, ⟨o12.mono hF, hsub, rfl, rfl⟩, o12⟩
  · exact hm.only o2 (fun e => (ap.gx _ e).2.1 rfl)
  · rcases bp with bp | ⟨b, e, hb, L3, hm3, ht3⟩
    · exact .inl bp
    · exact .inr ⟨b, e, hb, L3, (hm3.only o12 (fun e' => e'.elim (fun e' => ap.gb.2 (e' ▸ e)) (fun e' => (ap.gx b e').2.2.1 e))).mono hN, ht3.move o12 hd hs'⟩
  · intro k hk
    rcases hix k hk with hk | hk
    · exact ap.gx k hk
    · refine ⟨fun e => ?_, fun e => ?_, fun e => ?_, fun e => ?_⟩
      · have e : k = F.g := e
        have := (hlt F.g (.inl rfl)).2; omega
      · have e : k = F.m := e
        have := (hlt F.m (.inr (.inl rfl))).2; omega
      · have := (hlt k (.inr (.inr (.inr (.inl e))))).2; omega
      · have := (hlt k (.inr (.inr (.inr (.inr e))))).2; omega
set_option maxHeartbeats 2000000 in
theorem free_fine (B : Nat) (F : Lay) (N : Nat) (s : PS) (k : ByteArray) (w : World) (h : Sp w B F N s) (hk : k.size ≤ 100000000) (hN : N ≤ 1000000000) (hB : B ≤ w.heap.size) :
    Calls Tryz.prog 77 #[.pointer (some ⟨F.g, 0, none⟩), .string k] w fun e w' => e = .returned (.tuple #[]) ∧ ∃ v', Sp w' B { F with vd := v' } N { s with l := dropK s.l k } ∧ Moves F { F with vd := v' } w w' ∧ Only (fun q => q = F.m ∨ IxS F.gd F.md F.vd q) w w' := by
  have hok : okk k := by unfold okk maxLen; omega
  obtain ⟨c0, c1, -, -, -, -, -⟩ := h.cells
  obtain ⟨L, hmm, htt⟩ := h.sq.mp
  obtain ⟨w1, hdel, hm1, o1⟩ := hmm.drop Tryz.underlying86 hok 0
  have ht1 := htt.drop k
  have hix := h.sq.ix.only o1 (fun x hx e => (h.sq.ap.gx x hx).2.1 e)
  have c1' := o1.cell c1 (fun e => h.sq.ap.gm e)
  have hdr := DsI.drop_calls B F.gd F.md F.vd _ N k w1 hix hok (Nat.le_trans hB o1.size) (by omega)
  have hI := inv_drop h.inv k
  rw [dues_drop DuB.linS PH.due h.inv.ris] at hdr
  have H := Lib.hid (And.intro h (And.intro hm1 (And.intro o1 (And.intro ht1 hI))))
  clear h hmm htt hm1 o1 ht1 hix hI
  go_enter Tryz.func77, Tryz.ntmps77
  go_wp2_with fail
  refine hdr.mono ?_
  rintro e w2 ⟨rfl, v', hx', o2, hv'⟩
  go_wp2_with fail
  refine bodyPost_end (results_none rfl _ _ _) rfl ?_
  obtain ⟨h, hm1, o1, ht1, hI⟩ := H.out
  obtain ⟨r1, r2, r3⟩ := h.relay o1 hm1 ht1 hx' o2 hv' (Nat.le_refl _) hI
  exact ⟨rfl, _, r1, r2, r3⟩
theorem free_calls (B : Nat) (F : Lay) (N : Nat) (s : PS) (k : ByteArray) (w : World) (h : Sp w B F N s) (hk : k.size ≤ 100000000) (hN : N ≤ 1000000000) (hB : B ≤ w.heap.size) :
    Calls Tryz.prog 77 #[.pointer (some ⟨F.g, 0, none⟩), .string k] w fun e w' => e = .returned (.tuple #[]) ∧ ∃ F', Sp w' B F' N { s with l := dropK s.l k } ∧ Moves F F' w w' :=
  (free_fine B F N s k w h hk hN hB).mono fun _ _ ⟨h1, v', h2, h3, _⟩ => ⟨h1, _, h2, h3⟩
theorem two_only {S : Nat → Prop} {w w' : World} {q1 q2 : Addr} {u1 u2 : Value} (h : w.cell? q1 = some u1 ∧ w.cell? q2 = some u2) (ho : Only S w w') (h1 : ¬ S q1.block) (h2 : ¬ S q2.block) : w'.cell? q1 = some u1 ∧ w'.cell? q2 = some u2 :=
  ⟨ho.cell h.1 h1, ho.cell h.2 h2⟩
theorem hcells_at {w : World} {b : Nat} {x : VV} {d : Int} {n : Nat} (h : w.heap[b]? = some (.cells (hcells x d n) 97 (0, 0))) :
    w.cell? ⟨b, 0, none⟩ = some (.int .i64 x.kind) ∧ w.cell? ⟨b, 1, none⟩ = some (.string x.text) ∧ w.cell? ⟨b, 2, none⟩ = some (.slice x.LA x.ln x.lc) ∧ w.cell? ⟨b, 3, none⟩ = some (.slice x.FA x.fn x.fc) ∧ w.cell? ⟨b, 4, none⟩ = some (.slice x.KA x.kn x.kc) ∧
      w.cell? ⟨b, 5, none⟩ = some (.int .i64 d) ∧ w.cell? ⟨b, 6, none⟩ = some (.int .u64 n) := by
  refine ⟨?_, ?_, ?_, ?_, ?_, ?_, ?_⟩ <;> simp [World.cell?, h, hcells]
set_option maxHeartbeats 2000000 in
theorem lay_fine (B : Nat) (F : Lay) (N : Nat) (s : PS) (k : ByteArray) (x : VV) (p : PH) (w : World) (h : Sp w B F N s) (hk : k.size ≤ 100000000) (hN : N ≤ 1000000000) (hB : B ≤ w.heap.size) (hx : Vok w (Fx F) x p.v) (hp : 0 ≤ p.due ∧ p.due ≤ 9007199254740992) (hI : Inv { s with l := setK lt s.l k p }) :
    Calls Tryz.prog 45 #[.pointer (some ⟨F.g, 0, none⟩), .string k, hval x p.due p.ver] w fun e w' => e = .returned (.tuple #[]) ∧ ∃ v', Sp w' B { F with vd := v' } (N + 1) { s with l := setK lt s.l k p } ∧ Moves F { F with vd := v' } w w' ∧ Only (fun q => q = F.m ∨ IxS F.gd F.md F.vd q) w w' := by
  have hok : okk k := by unfold okk maxLen; omega
  obtain ⟨d0, hd0⟩ : ∃ d0, p.due = d0 := ⟨_, rfl⟩
  obtain ⟨n0, hn0⟩ : ∃ n0, p.ver = n0 := ⟨_, rfl⟩
  obtain ⟨W1, hW1⟩ : ∃ W1, w.alloc (.cells (hcells x d0 n0) 97) = W1 := ⟨_, rfl⟩
  have b1 : Below w.heap.size w W1.drew := by rw [← hW1]; exact ((Below.refl _ _).alloc (Nat.le_refl _) _).drew
  have hbx : W1.drew.heap[w.heap.size]? = some (.cells (hcells x d0 n0) 97 (0, 0)) := by rw [← hW1]; exact heap_alloc_new w _
  have o0 : Only (fun q => q = F.m ∨ IxS F.gd F.md F.vd q) w W1.drew := by rw [← hW1]; exact ((Only.refl _ w).alloc _).drew
  have h1 := h.below b1
  have hx1 := hx.below b1
  have hu : RdH W1.drew (Fx F) (hval x d0 n0) p := ⟨x, by rw [hd0, hn0], hx1⟩
  obtain ⟨c0, c1, -, -, -, -, -⟩ := h1.cells
  obtain ⟨L, hmm, htt⟩ := h1.sq.mp
  obtain ⟨w2, hset, hm2, o2⟩ := hmm.set Tryz.underlying86 (by unfold maxLen; omega) hok (hval x d0 n0)
  have ht2 := htt.set k hu
  have hix := h1.sq.ix.only o2 (fun x hx e => (h1.sq.ap.gx x hx).2.1 e)
  have c1' := o2.cell c1 (fun e => h1.sq.ap.gm e)
  have hbx2 := o2.heap hbx (fun e => by have := (h.lt F.m (.inr (.inl rfl))).2; omega)
  have q1 : w2.cell? ⟨w.heap.size, 5, none⟩ = some (.int .i64 d0) := by simp [World.cell?, hbx2, hcells]
  have M1 : Moves F F w W1.drew := Moves.below b1
  have hB2 : B ≤ w2.heap.size := Nat.le_trans hB (Nat.le_trans b1.size o2.size)
  rw [hd0] at hp ⊢
  rw [hn0]
  by_cases hz : d0 = 0
  · have hdr := DsI.drop_calls B F.gd F.md F.vd _ N k w2 hix hok hB2 (by omega)
    have e1 := dues_set DuB.linS PH.due h.inv.ris k p
    rw [hd0, if_pos hz] at e1
    rw [← e1] at hdr
    have H := Lib.hid (And.intro h1 (And.intro hm2 (And.intro o2 (And.intro ht2 (And.intro hI (And.intro M1 o0))))))
    subst hz
    have HW := Lib.hid hW1
    have r2 := hset
    unfold hval at r2 ⊢
    obtain ⟨y0, y1, y2, y3, y4, y5, y6⟩ := hcells_at hbx
    clear h h1 hmm htt hm2 o2 ht2 hix hI M1 o0 hd0 hn0 e1 hW1 b1 hbx hbx2 hset hx hx1 hu
    go_enter Tryz.func45, Tryz.ntmps45
    go_wp2_with fail
    have HW1 := HW.out
    unfold hcells at HW1
    rw [HW1]
    clear HW1
    go_region_law (fail)
    all_goals (
      go_wp2_with fail
      refine hdr.mono ?_
      rintro e w3 ⟨rfl, v', hx', o3, hv'⟩
      go_wp2_with fail
      refine bodyPost_end (results_none rfl _ _ _) rfl ?_
      obtain ⟨h1, hm2, o2, ht2, hI, M1, o0⟩ := H.out
      obtain ⟨D, hM, hT⟩ := hx'.mp
      obtain ⟨r1, r2, r3⟩ := h1.relay o2 hm2 ht2 { hx' with mp := ⟨D, hM.mono (Nat.le_succ _), hT⟩, len := Nat.le_trans hx'.len (Nat.le_succ _) } o3 hv' (Nat.le_succ _) hI
      exact ⟨rfl, _, r1, M1.trans r2, o0.trans r3 (fun q e => .inl e)⟩)
  · have hdr := DsJ.set_calls B F.gd F.md F.vd _ N k d0 w2.drew hix.drew hok hB2 (by omega)
    have e1 := dues_set DuB.linS PH.due h.inv.ris k p
    rw [hd0, if_neg hz] at e1
    unfold DsJ.setL at hdr
    rw [if_pos (show DsJ.okT d0 from hp), ← e1] at hdr
    have hxg : ¬ IxS F.gd F.md F.vd F.g := fun e => (h.sq.ap.gx _ e).1 rfl
    have hxb : ¬ IxS F.gd F.md F.vd w.heap.size := fun e => by have := (h.lt _ (.inr (.inr (.inl e)))).2; omega
    have H := Lib.hid (And.intro h1 (And.intro hm2 (And.intro o2 (And.intro ht2 (And.intro hI (And.intro M1 o0))))))
    have HW := Lib.hid hW1
    have r2 := hset
    unfold hval at r2 ⊢
    have hz' : (d0 == 0) = false := by simpa using hz
    obtain ⟨y0, y1, y2, y3, y4, y5, y6⟩ := hcells_at hbx
    clear h h1 hmm htt hm2 o2 ht2 hix hI M1 o0 hd0 hn0 e1 hW1 b1 hbx hbx2 hset hx hx1 hu
    go_enter Tryz.func45, Tryz.ntmps45
    go_wp2_with fail
    have HW1 := HW.out
    unfold hcells at HW1
    rw [HW1]
    clear HW1
    go_region_law (fail)
    all_goals (
      go_wp2_with fail
      have cd : w2.drew.cell? ⟨F.g, 1, none⟩ = some (.pointer (some ⟨F.gd, 0, none⟩)) ∧ w2.drew.cell? ⟨w.heap.size, 5, none⟩ = some (.int .i64 d0) := ⟨c1', q1⟩
      go_region_held3 (fun w' => w'.cell? ⟨F.g, 1, none⟩ = some (.pointer (some ⟨F.gd, 0, none⟩)) ∧ w'.cell? ⟨w.heap.size, 5, none⟩ = some (.int .i64 d0)) (first | exact ⟨c1', q1⟩ | exact two_only cd o3 hxg hxb)
        (first
          | (go_at_call 68; refine hdr.mono ?_; rintro e w3 ⟨rfl, v', hx', o3, hv'⟩))
      all_goals (
        refine bodyPost_end (results_none rfl _ _ _) rfl ?_
        obtain ⟨h1, hm2, o2, ht2, hI, M1, o0⟩ := H.out
        obtain ⟨r1, r2, r3⟩ := h1.relay o2.drew (hm2.below ((Below.refl _ _).drew)) ht2 hx' o3 hv' (Nat.le_succ _) hI
        exact ⟨rfl, _, r1, M1.trans r2, o0.trans r3 (fun q e => .inl e)⟩))
theorem lay_calls (B : Nat) (F : Lay) (N : Nat) (s : PS) (k : ByteArray) (x : VV) (p : PH) (w : World) (h : Sp w B F N s) (hk : k.size ≤ 100000000) (hN : N ≤ 1000000000) (hB : B ≤ w.heap.size) (hx : Vok w (Fx F) x p.v) (hp : 0 ≤ p.due ∧ p.due ≤ 9007199254740992) (hI : Inv { s with l := setK lt s.l k p }) :
    Calls Tryz.prog 45 #[.pointer (some ⟨F.g, 0, none⟩), .string k, hval x p.due p.ver] w fun e w' => e = .returned (.tuple #[]) ∧ ∃ F', Sp w' B F' (N + 1) { s with l := setK lt s.l k p } ∧ Moves F F' w w' :=
  (lay_fine B F N s k x p w h hk hN hB hx hp hI).mono fun _ _ ⟨h1, v', h2, h3, _⟩ => ⟨h1, _, h2, h3⟩
end Go.Proofs.YtgmnnpbbiejbnaaGreat.SpE
