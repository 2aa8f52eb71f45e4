/-
  Rows of (tick, key): how they lie; before, slices.BinarySearchFunc. Conditions: as stated.
-/
import Derived.Test.YtjofbagaobdmoaaGreatDuB
import Derived.Deep.RegionHeld3
set_option maxRecDepth 100000
set_option linter.unusedSimpArgs false
set_option linter.unusedVariables false
namespace Go.Proofs.YtjofbagaobdmoaaGreat.DsC
open Go.RowKit Go.Proofs.YtjofbagaobdmoaaGreat.Mem Go.Proofs.YtjofbagaobdmoaaGreat.DuA Go.Proofs.YtjofbagaobdmoaaGreat.DuM Go.Proofs.YtjofbagaobdmoaaGreat.DuN Go.Proofs.YtjofbagaobdmoaaGreat.DuB

abbrev Ent := 130
abbrev eo (e : Int × ByteArray) : Obj := .cells #[.int .i64 e.1, Value.string e.2] 130
def ents (l : List (Int × ByteArray)) : List Value := l.flatMap fun e => [.int .i64 e.1, Value.string e.2]
theorem ents_len (l : List (Int × ByteArray)) : (ents l).length = l.length * 2 := by
  induction l with
  | nil => rfl
  | cons e r ih => simp only [ents, List.flatMap_cons, List.length_append, List.length_cons, List.length_nil] at ih ⊢; omega
theorem ents_app (a b : List (Int × ByteArray)) : ents (a ++ b) = ents a ++ ents b := by simp [ents]
theorem ents_one (l : List (Int × ByteArray)) : ∀ u ∈ ents l, u.oneCell' = true := by
  intro u hu; simp only [ents, List.mem_flatMap] at hu; obtain ⟨x, _, h⟩ := hu; simp at h; rcases h with rfl | rfl <;> rfl
theorem ents_take : ∀ (l : List (Int × ByteArray)) (k : Nat), (ents l).take (k * 2) = ents (l.take k)
  | [], k => by simp [ents]
  | e :: r, 0 => by simp [ents]
  | e :: r, k + 1 => by
    have ih := ents_take r k
    rw [show (k + 1) * 2 = k * 2 + 2 by omega]
    simp only [ents, List.flatMap_cons, List.take_succ_cons, List.cons_append, List.nil_append] at ih ⊢
    rw [ih]
theorem ents_drop : ∀ (l : List (Int × ByteArray)) (k : Nat), (ents l).drop (k * 2) = ents (l.drop k)
  | [], k => by simp [ents]
  | e :: r, 0 => by simp [ents]
  | e :: r, k + 1 => by
    have ih := ents_drop r k
    rw [show (k + 1) * 2 = k * 2 + 2 by omega]
    simp only [ents, List.flatMap_cons, List.drop_succ_cons, List.cons_append, List.nil_append] at ih ⊢
    rw [ih]
theorem ents_get : ∀ (l : List (Int × ByteArray)) (i : Nat) (e : Int × ByteArray), l[i]? = some e → (ents l)[i * 2]? = some (.int .i64 e.1) ∧ (ents l)[i * 2 + 1]? = some (Value.string e.2)
  | [], i, e, h => by simp at h
  | y :: r, 0, e, h => by simp at h; subst h; simp [ents]
  | y :: r, i + 1, e, h => by
    obtain ⟨h1, h2⟩ := ents_get r i e (by simpa using h)
    rw [show (i + 1) * 2 = i * 2 + 2 by omega]
    simp only [ents, List.flatMap_cons, List.cons_append, List.nil_append] at h1 h2 ⊢
    exact ⟨by simpa using h1, by rw [show i * 2 + 2 + 1 = i * 2 + 1 + 2 by omega]; simpa using h2⟩
/-- A slice that reads as such a list. -/
abbrev RdE (w : World) (A : Option Addr) (n c : Nat) (l : List (Int × ByteArray)) : Prop := Rd w 2 A n c (ents l)
theorem rde_len {w : World} {A : Option Addr} {n c : Nat} {l : List (Int × ByteArray)} (h : RdE w A n c l) : l.length = n := by have := h.len; rw [ents_len] at this; omega
theorem rde_get {w : World} {A : Option Addr} {n c : Nat} {l : List (Int × ByteArray)} (h : RdE w A n c l) {i : Nat} {e : Int × ByteArray} (hs : l[i]? = some e) :
    ∃ p, A = some p ∧ w.cell? (p.add (i * 2)) = some (.int .i64 e.1) ∧ w.cell? ⟨(p.add (i * 2)).block, (p.add (i * 2)).off + 1, none⟩ = some (Value.string e.2) := by
  obtain ⟨h1, h2⟩ := ents_get l i e hs
  obtain ⟨p, rfl, c1⟩ := h.get _ _ h1
  obtain ⟨p', e', c2⟩ := h.get _ _ h2
  injection e' with e'; subst e'
  exact ⟨_, rfl, c1, by
    have h : w.cell? ((p.add (i * 2)).add 1) = some (Value.string e.2) := by rw [add_add]; exact c2
    exact h⟩
theorem elE : El Tryz.prog 126 130 (.agg #[.int .i64 0, .string ⟨#[]⟩]) 2 24 := by
  obtain ⟨i, h1, h2, h3, h4⟩ := info_parts (show (Tryz.prog.info? 130).map (fun i => (i.zero, i.size, i.bytes)) = some (some (.agg #[.int .i64 0, .string ⟨#[]⟩]), 2, 24) by kernel_rfl)
  exact ⟨Tryz.underlying126, ⟨i, h1, h2, h3, h4⟩, rfl, by decide⟩

theorem al (w : World) (o : Obj) : Below w.heap.size w (w.alloc o) := (Below.refl _ w).alloc (Nat.le_refl _) o
theorem eo_cells (w : World) (e : Int × ByteArray) : (w.alloc (eo e)).cell? ⟨w.heap.size, 0, none⟩ = some (.int .i64 e.1) ∧ (w.alloc (eo e)).cell? ⟨w.heap.size, 1, none⟩ = some (Value.string e.2) := by
  have h := heap_alloc_new w (eo e)
  exact ⟨by unfold World.cell?; simp only [h]; rfl, by unfold World.cell?; simp only [h]; rfl⟩
theorem below_drawn_ {B : Nat} {w w' : World} (h : Below B w w') (n : Nat) : Below B w (w'.drewN n) := h.trans ⟨rfl, rfl, rfl, Nat.le_refl _, fun _ _ => rfl⟩
theorem cell_b {w w' : World} {q : Addr} {u : Value} (hc : w.cell? q = some u) (hb : Below w.heap.size w w') : w'.cell? q = some u := by
  have hlt : q.block < w.heap.size := by
    rcases Nat.lt_or_ge q.block w.heap.size with hlt | hge
    · exact hlt
    · simp [World.cell?, Array.getElem?_eq_none hge] at hc
  exact (hb.cell hlt).trans hc

set_option maxHeartbeats 1000000 in
theorem before_calls (a b : Int × ByteArray) (w : World) : Calls Tryz.prog 89 #[.agg #[.int .i64 a.1, .string a.2], .agg #[.int .i64 b.1, .string b.2]] w fun e w' => e = .returned (.int .i64 (cmpE ltS a b)) ∧ Below w.heap.size w w' := by
  obtain ⟨a1, a2⟩ := a
  obtain ⟨b1, b2⟩ := b
  obtain ⟨W, hW⟩ : ∃ W, (w.alloc (eo (a1, a2))).alloc (eo (b1, b2)) = W := ⟨_, rfl⟩
  have BW : Below w.heap.size w W := by rw [← hW]; exact (al w _).alloc (by simp) _
  have x0 : W.cell? ⟨w.heap.size, 0, none⟩ = some (.int .i64 a1) := by rw [← hW]; exact cell_b (eo_cells w (a1, a2)).1 (al _ _)
  have x1 : W.cell? ⟨w.heap.size, 1, none⟩ = some (.string a2) := by rw [← hW]; exact cell_b (eo_cells w (a1, a2)).2 (al _ _)
  have y0 : W.cell? ⟨w.heap.size + 1, 0, none⟩ = some (.int .i64 b1) := by
    rw [← hW]; have := (eo_cells (w.alloc (eo (a1, a2))) (b1, b2)).1; rwa [World.size_alloc] at this
  have y1 : W.cell? ⟨w.heap.size + 1, 1, none⟩ = some (.string b2) := by
    rw [← hW]; have := (eo_cells (w.alloc (eo (a1, a2))) (b1, b2)).2; rwa [World.size_alloc] at this
  have HW := Lib.hid hW
  clear hW
  go_enter Tryz.func89, Tryz.ntmps89
  go_wp2_with fail
  rw [show (w.alloc (.cells #[.int .i64 a1, .string a2] 130)).alloc (.cells #[.int .i64 b1, .string b2] 130) = W from HW.out]
  go_wp2_with fail
  refine (cmpI_calls a1 b1 W).mono ?_
  rintro e w1 ⟨rfl, rfl⟩
  by_cases h : a1 = b1
  · have e0 : cmpK ltI a1 b1 = 0 := by simp [cmpK, ltI, h]
    have E : Hid (cmpE ltS (a1, a2) (b1, b2) = cmpK ltS a2 b2) := by subst h; simp [cmpE, Hid]
    clear h
    rw [e0]
    clear e0
    go_wp2_with fail
    refine (cmpS_calls a2 b2 _).mono ?_
    rintro e w2 ⟨rfl, rfl⟩
    go_wp2_with fail
    go_ret
    exact ⟨by rw [E.out] <;> rfl, BW⟩
  · have hne : (cmpK ltI a1 b1 == 0) = false := by
      unfold cmpK ltI; by_cases h1 : a1 < b1
      · simp [h1]
      · simp [h1, show b1 < a1 by omega]
    have E : Hid (cmpE ltS (a1, a2) (b1, b2) = cmpK ltI a1 b1) := by
      show cmpE _ _ _ = _
      unfold cmpE cmpK ltI
      by_cases h1 : a1 < b1
      · simp [h1]
      · simp [h1, show b1 < a1 by omega]
    generalize cmpK ltI a1 b1 = C at hne E ⊢
    clear h
    go_wp2_with fail
    go_ret
    exact ⟨by rw [E.out] <;> rfl, BW⟩
end Go.Proofs.YtjofbagaobdmoaaGreat.DsC
