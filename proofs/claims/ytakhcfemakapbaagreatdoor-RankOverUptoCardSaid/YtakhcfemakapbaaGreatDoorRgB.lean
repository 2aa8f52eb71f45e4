/-
  slices.Delete of one element of such a row. Conditions: as stated.
  slices.Insert of one element into such a row. Conditions: as stated.
  slices.Insert of one element into such a row, where there is no room; whatever the room. Conditions: as stated.
  A Rank at its block; its Score, Len. Conditions: as stated.
-/
import Derived.Test.YtakhcfemakapbaaGreatDoorRgA
import Derived.Deep.RegionLaw
import Derived.Shelf.RegionOpenPlain
import Derived.Lib.Hide
import Derived.Shelf.Spec.SlicesInsert
import Derived.Lib.AppendZerosOnto
import Derived.Laws.NewBlocks
import Derived.Maps.OwnOps
import Derived.Maps.OwnSet
set_option maxRecDepth 100000
set_option linter.unusedSimpArgs false
set_option linter.unusedVariables false
namespace Go.Proofs.YtakhcfemakapbaaGreatDoor.RkE
open Go.RowKit Go.Shelf Go.Lib Go.Proofs.YtakhcfemakapbaaGreatDoor.Mem Go.Proofs.YtakhcfemakapbaaGreatDoor.DuA Go.Proofs.YtakhcfemakapbaaGreatDoor.DuM Go.Proofs.YtakhcfemakapbaaGreatDoor.DuN Go.Proofs.YtakhcfemakapbaaGreatDoor.RkA Go.Proofs.YtakhcfemakapbaaGreatDoor.RkB

/-- A row of entries of the call's own. -/
abbrev OwnE (w : World) (B : Nat) (v : Value) (l : List (Int × ByteArray)) : Prop := w.ownsRow B 51 2 v l.length (ents l)
theorem own_block {w : World} {B n c : Nat} {A : Option Addr} {l : List (Int × ByteArray)} (h : OwnE w B (.slice A n c) l) (hn : 0 < n) :
    ∃ g cur, A = some ⟨g, 0, none⟩ ∧ B ≤ g ∧ w.heap[g]? = some (.cells cur 51 (0, 0)) ∧ n ≤ c ∧ c ≤ maxLen ∧ cur.size = c * 2 ∧ l.length = n ∧ cur.toList.take (n * 2) = ents l := by
  have hl : l.length = n := own_n h
  rcases h.2 with ⟨e, h0⟩ | ⟨g, cap, cur, e, h1, h2, h3, h4, h5, h6⟩
  · injection e with _ e2 _; omega
  · injection e with e1 e2 e3
    subst e1 e3
    rw [hl] at h3 h6
    exact ⟨g, cur, rfl, h1, h2, h3, h4, h5, hl, h6⟩
theorem own_of {w : World} {B n c g : Nat} {cur : Array Value} {l : List (Int × ByteArray)} (h1 : B ≤ g) (h2 : w.heap[g]? = some (.cells cur 51 (0, 0))) (h3 : n ≤ c) (h4 : c ≤ maxLen) (h5 : cur.size = c * 2) (hl : l.length = n) (h6 : cur.toList.take (n * 2) = ents l) : OwnE w B (.slice (some ⟨g, 0, none⟩) n c) l := by
  subst hl
  exact ⟨by rw [ents_len], .inr ⟨g, c, cur, rfl, h1, h2, h3, h4, h5, h6⟩⟩

set_option maxHeartbeats 2000000 in
theorem delete_calls (B n c i : Nat) (A : Option Addr) (l : List (Int × ByteArray)) (w : World) (ho : OwnE w B (.slice A n c) l) (hi : i < n) :
    Calls Tryz.prog 56 #[.slice A n c, .int .i64 i, .int .i64 ((i : Int) + 1)] w fun e w' =>
      e = .returned (.slice A (n - 1) c) ∧ OwnE w' B (.slice A (n - 1) c) (l.take i ++ l.drop (i + 1)) ∧ Only (fun k => (.slice A n c : Value).ownBlock = some k) w w' := by
  obtain ⟨g, cur, rfl, hB, hg, hnc, hcm, hcs, hl, hX⟩ := own_block ho (by omega)
  have hcm' : c ≤ 9223372036854775807 := hcm
  obtain ⟨ii, hii, hz0, hz1, hz2⟩ := elE.info
  obtain ⟨news, hnews⟩ : ∃ news, news = ents (l.drop (i + 1)) := ⟨_, rfl⟩
  have hlen : news.length = (n - (i + 1)) * 2 := by rw [hnews, ents_len, List.length_drop, hl]
  have hcl : cur.toList.length = c * 2 := by simpa using hcs
  have hnews' : news = (cur.toList.take (n * 2)).drop ((i + 1) * 2) := by rw [hX, ents_drop, hnews]
  obtain ⟨A', hA', hsrc⟩ : ∃ A' : Addr, (if c = i + 1 then some (⟨g, 0, none⟩ : Addr) else some ⟨g, (i + 1) * 2, none⟩) = some A' ∧ Hid (∀ t u, news[t]? = some u → w.drew.cell? (A'.add t) = some u) := by
    by_cases h : c = i + 1
    · refine ⟨⟨g, 0, none⟩, by simp [h], fun t u hu => ?_⟩
      have h0 : news.length = 0 := by rw [hlen]; omega
      rw [List.length_eq_zero_iff.1 h0] at hu
      simp at hu
    · refine ⟨⟨g, (i + 1) * 2, none⟩, by simp [h], fun t u hu => ?_⟩
      rw [hnews', List.getElem?_drop, List.getElem?_take] at hu
      split at hu
      · rw [add_mk]
        have := (List.getElem?_eq_some_iff.1 hu).1
        show w.cell? _ = _
        rw [block_cell hg (by omega)]
        rw [Array.getElem?_toList] at hu
        rw [Array.getElem?_eq_getElem (by omega)] at hu
        exact hu
      · cases hu
  have s1 : Hid (news.length = (n - (i + 1)) * 2) := hlen
  have s2 : Hid (∀ u ∈ news, u.oneCell' = true) := by rw [hnews]; exact ents_one _
  have s3 : Hid (∀ t, t < news.length → (w.drew.cell? ⟨g, 0 + i * 2 + t, none⟩).isSome = true ∧ w.drew.frozen? ⟨g, 0 + i * 2 + t, none⟩ = false) := by
    intro t ht
    rw [hlen] at ht
    exact ⟨by show (w.cell? _).isSome = true; rw [block_cell hg (by omega)]; rfl, block_free hg⟩
  obtain ⟨W1, hW1⟩ : ∃ W1, W1 = w.drew.setCells g (0 + i * 2) news := ⟨_, rfl⟩
  obtain ⟨cur1, hg1, hs1, hc1⟩ := heap_setCells (w := w.drew) (g := g) (cur := cur) news (0 + i * 2) hg (by omega)
  rw [← hW1] at hg1
  have o1 : Only (fun k => k = g) w W1 := by rw [hW1]; exact only_puts (S := fun k => k = g) g (.inl rfl) _ _ ((Only.refl _ w).drew)
  have hcz : ∀ ty m, (Builtin.clear_ #[22] ty #[.slice (some ⟨g, (n - 1) * 2, none⟩) (n - (n - 1)) m]).run Tryz.prog W1 = .ok (.tuple #[]) (W1.setCells g ((n - 1) * 2) [.string ⟨#[]⟩, .int .i64 0]) :=
    fun ty m => by
     rw [show n - (n - 1) = 1 by omega]
     exact run_clearN W1 _ 51 ty (.agg #[.string ⟨#[]⟩, .int .i64 0]) Tryz.underlying22 (by intro w; kernel_rfl) g ((n - 1) * 2) 1 m (by omega) [.string ⟨#[]⟩, .int .i64 0] (by simp [Builtin.zeroCells, Value.cells, List.range_succ]) (by intro v hv; simp at hv; rcases hv with rfl | rfl <;> rfl)
      (fun j hj => by simp at hj; rw [block_cell hg1 (by omega)]; rfl) (fun j hj => block_free hg1)
  obtain ⟨cur2, hg2, hs2, hc2⟩ := heap_setCells (w := W1) (g := g) (cur := cur1) [.string ⟨#[]⟩, .int .i64 0] ((n - 1) * 2) hg1 (by simp; omega)
  have o2 : Only (fun k => k = g) w (W1.setCells g ((n - 1) * 2) [.string ⟨#[]⟩, .int .i64 0]) := only_puts (S := fun k => k = g) g (.inl rfl) _ _ o1
  have fin : Hid (OwnE (W1.setCells g ((n - 1) * 2) [.string ⟨#[]⟩, .int .i64 0]) B (.slice (some ⟨g, 0, none⟩) (n - 1) c) (l.take i ++ l.drop (i + 1)) ∧ Only (fun k => k = g) w (W1.setCells g ((n - 1) * 2) [.string ⟨#[]⟩, .int .i64 0])) := by
    refine ⟨own_of hB hg2 (by omega) hcm (by omega) (by simp; omega) ?_, o2⟩
    have hc1l : cur1.toList.length = c * 2 := by simp; omega
    rw [hc2, List.append_assoc, List.take_append_of_le_length (by rw [List.length_take]; omega), List.take_take, Nat.min_self, hc1, ents_app, ← ents_take, ← hnews, ← hX, List.take_take, show min (i * 2) (n * 2) = i * 2 by omega, Nat.zero_add, List.take_append_of_le_length (by simp; omega), List.take_of_length_le (by simp; omega)]
  have hW : Hid (W1 = w.drew.setCells g (0 + i * 2) news) := hW1
  have hic : i ≤ c := by omega
  have hjc : i + 1 ≤ c := by omega
  clear hW1 hg hg1 hg2 hc1 hc2 hs1 hs2 hnews hnews' hlen hX hcl o1 o2 ho hl hcs
  go_enter Tryz.func56, Tryz.ntmps56
  go_wp2_with fail
  have htn : ((i : Int) + 1).toNat = i + 1 := by omega
  have hb1 : (0 : Int) ≤ (i : Int) + 1 := by omega
  have hb2 : (i : Int) + 1 ≤ (n : Int) := by omega
  have mixed : Tryz.prog.follows Departure.mixedOrders = true := by kernel_rfl
  go_region_law_o (refine step_append_room rfl (.tmp 22) (.tmp 25) 22 rfl 51 ii 2 Tryz.underlying22 hii hz1 g 0 i c (by simp [Act.eval, Act.put]) A' (n - (i + 1)) (c - (i + 1)) news (by simp [Act.eval, Act.put, htn, hA']) s1.out hsrc.out s2.out (by omega) s3.out ?_; rw [← hW.out])
  rw [show i + (n - (i + 1)) = n - 1 by omega]
  go_wp2_with fail
  go_ret
  obtain ⟨f1, f2⟩ := fin.out
  exact ⟨rfl, f1, f2.mono (fun k h => by rw [h]; rfl)⟩
end Go.Proofs.YtakhcfemakapbaaGreatDoor.RkE
set_option maxRecDepth 100000
set_option linter.unusedSimpArgs false
set_option linter.unusedVariables false
namespace Go.Proofs.YtakhcfemakapbaaGreatDoor.RkF
open Go.RowKit Go.Shelf Go.Lib Go.Proofs.YtakhcfemakapbaaGreatDoor.Mem Go.Proofs.YtakhcfemakapbaaGreatDoor.DuA Go.Proofs.YtakhcfemakapbaaGreatDoor.DuM Go.Proofs.YtakhcfemakapbaaGreatDoor.DuN Go.Proofs.YtakhcfemakapbaaGreatDoor.RkA Go.Proofs.YtakhcfemakapbaaGreatDoor.RkB Go.Proofs.YtakhcfemakapbaaGreatDoor.RkE

def InsPost (B : Nat) (v : Value) (l : List (Int × ByteArray)) (w : World) (e : Ending) (w' : World) : Prop :=
  ∃ v', e = .returned v' ∧ OwnE w' B v' l ∧ Only (fun k => v.ownBlock = some k) w w' ∧ (v'.ownBlock = v.ownBlock ∨ ∃ k, v'.ownBlock = some k ∧ w.heap.size ≤ k)
/-- The one element that is put in, in its own block. -/
structure One (w : World) (vb : Nat) (e : Int × ByteArray) : Prop where
  hp : w.heap[vb]? = some (eo e)
theorem One.rd {w : World} {vb : Nat} {e : Int × ByteArray} (h : One w vb e) : RdE w (some ⟨vb, 0, none⟩) 1 1 [e] := by
  refine ⟨rfl, Nat.le_refl _, by unfold maxLen; omega, fun j x hj => ⟨_, rfl, ?_⟩⟩
  rw [add_mk]
  unfold World.cell?
  simp only [h.hp]
  match j, hj with
  | 0, hj => exact hj
  | 1, hj => exact hj
  | j + 2, hj => simp [ents] at hj

set_option maxHeartbeats 2000000 in
theorem ins_end (B n c vb : Nat) (A : Option Addr) (l : List (Int × ByteArray)) (e : Int × ByteArray) (w : World) (ho : OwnE w B (.slice A n c) l) (h1 : One w vb e) (hB : B ≤ w.heap.size) (hn : (n + 1) * 24 ≤ 140737488355328) :
    Calls Tryz.prog 54 #[.slice A n c, .int .i64 n, .slice (some ⟨vb, 0, none⟩) 1 1] w (InsPost B (.slice A n c) (l ++ [e]) w) := by
  have hl : l.length = n := own_n ho
  have ho' : w.ownsRow B 51 2 (.slice A n c) n (ents l) := by have := ho; unfold OwnE at this; rwa [hl] at this
  have hr := Rd.of_own ho'
  have hc1 := hr.cap
  have hc2 : c ≤ 9223372036854775807 := hr.big
  have hrv := h1.rd
  have HL := Lib.hid hl
  clear hr ho hl
  rcases A with _ | ⟨ab, ao, asp⟩
  all_goals (
    go_enter Tryz.func54, Tryz.ntmps54
    go_wp2_with (at_builtin; refine wpList_app rfl (.tmp 23) (.tmp 24) elE rfl B _ n _ rfl ho' (some ⟨vb, 0, none⟩) 1 1 (ents [e]) rfl hrv (ents_one _) (by unfold maxLen; omega) (by omega) hB ?_; intro v w1 o1 b1 f1)
    all_goals (
      go_ret
      refine ⟨_, rfl, ?_, b1, ?_⟩
      · unfold OwnE
        rw [ents_app, List.length_append, HL.out]
        exact o1
      · rcases f1 with f1 | f1
        · exact .inl f1
        · exact .inr ⟨_, f1, Nat.le_refl _⟩))

theorem take3 {α : Type} {a b c d : List α} {k m : Nat} (hk : k = a.length + b.length + m) (hd : c.take m = d) : (a ++ b ++ c).take k = a ++ (b ++ d) := by
  subst hk hd
  rw [List.append_assoc, Nat.add_assoc, List.take_length_add_append, List.take_length_add_append]

set_option maxHeartbeats 4000000 in
theorem ins_shift (B n c i vb : Nat) (A : Option Addr) (l : List (Int × ByteArray)) (e : Int × ByteArray) (w : World) (ho : OwnE w B (.slice A n c) l) (h1 : One w vb e) (hv : (.slice A n c : Value).ownBlock ≠ some vb) (hi : i < n) (hroom : n + 1 ≤ c) :
    Calls Tryz.prog 54 #[.slice A n c, .int .i64 i, .slice (some ⟨vb, 0, none⟩) 1 1] w (InsPost B (.slice A n c) (l.take i ++ e :: l.drop i) w) := by
  obtain ⟨g, cur, rfl, hB, hg, hnc, hcm, hcs, hl, hX⟩ := own_block ho (by omega)
  have hcm' : c ≤ 9223372036854775807 := hcm
  have hvg : vb ≠ g := fun e => hv (by rw [e]; rfl)
  obtain ⟨ii, hii, hz0, hz1, hz2⟩ := elE.info
  have hsz : (Tryz.prog.info? 51).map (·.size) = some 2 := by rw [hii]; simp [hz1]
  obtain ⟨news, hnews⟩ : ∃ news, news = ents (l.drop i) := ⟨_, rfl⟩
  have hlen : news.length = (n - i) * 2 := by rw [hnews, ents_len, List.length_drop, hl]
  have hcl : cur.toList.length = c * 2 := by simpa using hcs
  have hnews' : news = (cur.toList.take (n * 2)).drop (i * 2) := by rw [hX, ents_drop, hnews]
  have hsrc : ∀ t u, news[t]? = some u → w.drew.cell? ((⟨g, i * 2, none⟩ : Addr).add t) = some u := by
    intro t u hu
    rw [hnews', List.getElem?_drop, List.getElem?_take] at hu
    split at hu
    · rw [add_mk]
      have := (List.getElem?_eq_some_iff.1 hu).1
      show w.cell? _ = _
      rw [block_cell hg (by omega)]
      rw [Array.getElem?_toList] at hu
      rw [Array.getElem?_eq_getElem (by omega)] at hu
      exact hu
    · cases hu
  have hcp1 : ∀ ty dc sc, (Builtin.copy_ #[22, 22] ty #[.slice (some ⟨g, (i + 1) * 2, none⟩) (n - i) dc, .slice (some ⟨g, i * 2, none⟩) (n + 1 - i) sc]).run Tryz.prog w.drew = .ok (goInt ((n - i : Nat) : Int)) (w.drew.setCells g ((i + 1) * 2) news) := fun ty dc sc =>
    run_copyN w.drew _ _ ty 51 2 g ((i + 1) * 2) (n - i) dc ⟨g, i * 2, none⟩ (n + 1 - i) sc news Tryz.underlying22 hsz (n - i) (by simp only [Nat.min_def]; split <;> omega) hlen hsrc
      (fun j hj => by show (w.cell? _).isSome = true; rw [block_cell hg (by omega)]; rfl) (fun j hj => block_free hg) (by rw [hnews]; exact ents_one _)
  obtain ⟨W1, hW1⟩ : ∃ W1, W1 = w.drew.setCells g ((i + 1) * 2) news := ⟨_, rfl⟩
  obtain ⟨cur1, hg1, hs1, hc1⟩ := heap_setCells (w := w.drew) (g := g) (cur := cur) news ((i + 1) * 2) hg (by omega)
  rw [← hW1] at hcp1 hg1
  have o1 : Only (fun k => k = g) w W1 := by rw [hW1]; exact only_puts (S := fun k => k = g) g (.inl rfl) _ _ ((Only.refl _ w).drew)
  have h2 : One W1 vb e := ⟨o1.heap h1.hp hvg⟩
  have hcp2 : ∀ ty dc, (Builtin.copy_ #[22, 22] ty #[.slice (some ⟨g, i * 2, none⟩) (n + 1 - i) dc, .slice (some ⟨vb, 0, none⟩) 1 1]).run Tryz.prog W1 = .ok (goInt 1) (W1.setCells g (i * 2) (ents [e])) := fun ty dc =>
    run_copyN W1 _ _ ty 51 2 g (i * 2) (n + 1 - i) dc ⟨vb, 0, none⟩ 1 1 (ents [e]) Tryz.underlying22 hsz 1 (by simp only [Nat.min_def]; split <;> omega) rfl
      (fun j u hj => by
        obtain ⟨q, hq, hc⟩ := h2.rd.get j u hj
        injection hq with hq; subst hq; exact hc)
      (fun j hj => by rw [block_cell hg1 (by simp [ents] at hj; omega)]; rfl) (fun j hj => block_free hg1) (ents_one _)
  obtain ⟨cur2, hg2, hs2, hc2⟩ := heap_setCells (w := W1) (g := g) (cur := cur1) (ents [e]) (i * 2) hg1 (by simp [ents]; omega)
  have o2 : Only (fun k => k = g) w (W1.setCells g (i * 2) (ents [e])) := only_puts (S := fun k => k = g) g (.inl rfl) _ _ o1
  have fin : Hid (OwnE (W1.setCells g (i * 2) (ents [e])) B (.slice (some ⟨g, 0, none⟩) (n + 1) c) (l.take i ++ e :: l.drop i) ∧ Only (fun k => k = g) w (W1.setCells g (i * 2) (ents [e]))) := by
    refine ⟨own_of hB hg2 hroom hcm (by omega) (by simp; omega) ?_, o2⟩
    have hc1l : cur1.toList.length = c * 2 := by simp; omega
    have e1 : l.take i ++ e :: l.drop i = l.take i ++ ([e] ++ l.drop i) := rfl
    have e2 : (ents [e]).length = 2 := rfl
    have e3 : cur1.toList.take (i * 2) = ents (l.take i) := by
      rw [hc1, List.append_assoc, List.take_append_of_le_length (by rw [List.length_take]; omega), List.take_take, show min (i * 2) ((i + 1) * 2) = i * 2 by omega, ← ents_take, ← hX, List.take_take, show min (i * 2) (n * 2) = i * 2 by omega]
    have e4 : (cur1.toList.drop (i * 2 + 2)).take ((n - i) * 2) = news := by
      have e5 : (cur.toList.take ((i + 1) * 2)).length = (i + 1) * 2 := by rw [List.length_take]; omega
      rw [hc1, show i * 2 + 2 = (i + 1) * 2 by omega, List.append_assoc, List.drop_append_of_le_length (by omega), List.drop_of_length_le (by omega), List.nil_append, List.take_append_of_le_length (by omega), List.take_of_length_le (by omega)]
    rw [hc2, e1, ents_app, ents_app, e3, ← hnews]
    exact take3 (by rw [ents_len, List.length_take, e2, hl, show min i n = i by omega]; omega) e4
  have hov : ∀ lb cb, (callFunc 76 #[.slice (some ⟨vb, 0, none⟩) 1 1, .slice (some ⟨g, (i + 1) * 2, none⟩) lb cb]).run Tryz.prog w = .ok (.value (.bool false)) w := fun lb cb => by
    rw [run_callFunc_extern Tryz.func76 (by kernel_rfl) (by kernel_rfl) (by kernel_rfl) (e := Extern.SlicesOverlaps.overlaps #[22, 22] #[4]) (by kernel_rfl),
      Lib.run_overlaps_apart w 22 4 51 Tryz.underlying22 2 (by intro w; kernel_rfl) ⟨vb, 0, none⟩ ⟨g, (i + 1) * 2, none⟩ 1 1 lb cb hvg 51 51 2 cur.size (by unfold World.shape?; simp only [h1.hp]; rfl) (by unfold World.shape?; simp only [hg]) (by omega) (block_free h1.hp) (block_free h1.hp)]
    rfl
  have hW : Hid (W1 = w.drew.setCells g ((i + 1) * 2) news) := hW1
  have hw1 : IntKind.i64.wrap ((n : Int) + 1) = (n : Int) + 1 := by rw [IntKind.wrap_i64]; omega
  have hw2 : IntKind.i64.wrap ((i : Int) + 1) = (i : Int) + 1 := by rw [IntKind.wrap_i64]; omega
  have t1 : ((n : Int) + 1).toNat = n + 1 := by omega
  have t2 : ((i : Int) + 1).toNat = i + 1 := by omega
  have q1 : (0 : Int) ≤ (i : Int) + 1 := by omega
  have q2 : (0 : Int) ≤ (n : Int) + 1 := by omega
  have q3 : (i : Int) + 1 ≤ (n : Int) + 1 := by omega
  have q4 : (n : Int) + 1 ≤ (c : Int) := by omega
  have q5 : ¬ (c = i + 1) := by omega
  have q6 : ¬ (c = i) := by omega
  have q7 : ¬ ((i : Int) = (n : Int)) := by omega
  have q8 : ¬ ((c : Int) < (n : Int) + 1) := by omega
  have q9 : (i : Int) ≤ (n : Int) + 1 := by omega
  have q10 : i ≤ n := by omega
  have mixed : Tryz.prog.follows Departure.mixedOrders = true := by kernel_rfl
  clear hW1 hg hg1 hg2 hc1 hc2 hs1 hs2 hnews hnews' hlen hX hcl o1 o2 ho hl hcs hsrc h2 h1
  go_enter Tryz.func54, Tryz.ntmps54
  go_wp2_with (simp only [hov])
  go_region_law_o (refine step_copy_runI rfl _ _ 22 22 rfl _ _ (by simp [Act.eval, Act.put]) (by simp [Act.eval, Act.put]) (hcp1 _ _ _) ?_)
  go_wp2_with (at_builtin; refine wpList_copy_runI _ rfl _ _ 22 22 rfl _ _ rfl rfl (hcp2 _ _) ?_)
  go_ret
  obtain ⟨f1, f2⟩ := fin.out
  exact ⟨_, rfl, f1, f2.mono (fun k h => by rw [h]; rfl), .inl rfl⟩
end Go.Proofs.YtakhcfemakapbaaGreatDoor.RkF
set_option maxRecDepth 100000
set_option linter.unusedSimpArgs false
set_option linter.unusedVariables false
namespace Go.Proofs.YtakhcfemakapbaaGreatDoor.RkG
open Go.RowKit Go.Shelf Go.Lib Go.Proofs.YtakhcfemakapbaaGreatDoor.Mem Go.Proofs.YtakhcfemakapbaaGreatDoor.DuA Go.Proofs.YtakhcfemakapbaaGreatDoor.DuM Go.Proofs.YtakhcfemakapbaaGreatDoor.DuN Go.Proofs.YtakhcfemakapbaaGreatDoor.RkA Go.Proofs.YtakhcfemakapbaaGreatDoor.RkB Go.Proofs.YtakhcfemakapbaaGreatDoor.RkE Go.Proofs.YtakhcfemakapbaaGreatDoor.RkF

abbrev zE : Value := .agg #[.string ⟨#[]⟩, .int .i64 0]
theorem zero_size (k : Nat) : (Builtin.zeroCells zE.cells k).size = k * 2 := by
  have h : zE.cells.size = 2 := rfl
  simp [Builtin.zeroCells, h]

set_option maxHeartbeats 4000000 in
theorem ins_grow (B n i vb : Nat) (A : Option Addr) (l : List (Int × ByteArray)) (e : Int × ByteArray) (w : World) (ho : OwnE w B (.slice A n n) l) (h1 : One w vb e) (hB : B ≤ w.heap.size) (hi : i < n) (hn : (n + 1) * 24 ≤ 140737488355328) :
    Calls Tryz.prog 54 #[.slice A n n, .int .i64 i, .slice (some ⟨vb, 0, none⟩) 1 1] w (InsPost B (.slice A n n) (l.take i ++ e :: l.drop i) w) := by
  obtain ⟨g, cur, rfl, hgB, hg, hnc, hcm, hcs, hl, hX⟩ := own_block ho (by omega)
  obtain ⟨ii, hii, hz0, hz1, hz2⟩ := elE.info
  have hsz : (Tryz.prog.info? 51).map (·.size) = some 2 := by rw [hii]; simp [hz1]
  have hbw : g < w.heap.size := (Array.getElem?_eq_some_iff.1 hg).1
  have hvw : vb < w.heap.size := (Array.getElem?_eq_some_iff.1 h1.hp).1
  have hcl : cur.toList.length = n * 2 := by simpa using hcs
  have hXi : cur.toList = ents l := by rw [← hX, List.take_of_length_le (by omega)]
  have hcell : ∀ (W : World), W.heap[g]? = some (.cells cur 51 (0, 0)) → ∀ (o : Nat) t u, ((ents l).drop o)[t]? = some u → W.cell? ((⟨g, o, none⟩ : Addr).add t) = some u := by
    intro W hW o t u hu
    rw [List.getElem?_drop, ← hXi] at hu
    have := (List.getElem?_eq_some_iff.1 hu).1
    rw [add_mk, block_cell hW (by simpa using this)]
    rw [Array.getElem?_toList] at hu
    rw [Array.getElem?_eq_getElem (by simpa using this)] at hu
    exact hu
  have hkk : (n : Int) + 1 - (i : Int) = ((n + 1 - i : Nat) : Int) := by omega
  have hik : i + (n + 1 - i) = n + 1 := by omega
  have hold : (Builtin.firstCells ii.size i (.slice (some ⟨g, 0, none⟩) i n)).run Tryz.prog w.drew = .ok (ents (l.take i)).toArray w.drew := by
    rw [hz1]
    exact run_firstCells_some w.drew 2 i ⟨g, 0, none⟩ i n (ents (l.take i)) (by rw [ents_len, List.length_take]; omega) (fun j v hj => by
      rw [← ents_take, List.getElem?_take] at hj
      split at hj
      · exact hcell w.drew hg 0 j v (by simpa using hj)
      · cases hj)
  have hrz : ∀ ty, (Builtin.append_ #[22, 3] ty #[.slice (some ⟨g, 0, none⟩) i n, .int .i64 ((n : Int) + 1 - (i : Int))]).run Tryz.prog w =
      .ok (.slice (some ⟨w.heap.size, 0, none⟩) (n + 1) (grownCap w (n + 1) n 51)) (w.drew.alloc (.cells ((ents (l.take i)).toArray ++ Builtin.zeroCells zE.cells (n + 1 - i) ++ Builtin.zeroCells zE.cells (grownCap w (n + 1) n 51 - (n + 1))) 51)) := fun ty => by
    have h := Lib.run_append_grow_zeros w 22 3 ty 51 ii _ .i64 .i64 Tryz.underlying22 Tryz.underlying3 hii hz0 (some ⟨g, 0, none⟩) i n (ents (l.take i)) hold (n + 1 - i) (by omega) (by omega) (by omega) (by omega) (by rw [hz2]; omega) (by rw [hz2, hik]; exact growslice_fits (by omega) (by omega))
    rw [hik] at h
    rw [hkk]
    exact h
  obtain ⟨G, hG⟩ : ∃ G, G = grownCap w (n + 1) n 51 := ⟨_, rfl⟩
  have hGn : n + 1 ≤ G := by rw [hG]; exact grownCap_ge w _ _ _
  have hG63 : G ≤ 9223372036854775807 := by
    have := grownCap_le_maxLen w (n + 1) n 51 (by unfold maxLen; omega)
    rw [← hG] at this
    unfold maxLen at this
    omega
  obtain ⟨ROW, hROW⟩ : ∃ ROW : Array Value, ROW = (ents (l.take i)).toArray ++ Builtin.zeroCells zE.cells (n + 1 - i) ++ Builtin.zeroCells zE.cells (G - (n + 1)) := ⟨_, rfl⟩
  rw [← hG] at hrz
  rw [← hROW] at hrz
  have hRl : ROW.size = G * 2 := by
    rw [hROW, Array.size_append, Array.size_append, zero_size, zero_size, List.size_toArray, ents_len, List.length_take]
    omega
  have hRt : ROW.toList.take (i * 2) = ents (l.take i) := by
    rw [hROW]
    simp only [Array.toList_append]
    rw [List.append_assoc, List.take_append_of_le_length (by rw [ents_len, List.length_take]; omega), List.take_of_length_le (by rw [ents_len, List.length_take]; omega)]
  have hdl : (ents (l.drop i)).length = (n - i) * 2 := by rw [ents_len, List.length_drop, hl]
  obtain ⟨W1, hW1⟩ : ∃ W1, W1 = w.drew.alloc (.cells ROW 51) := ⟨_, rfl⟩
  rw [← hW1] at hrz
  have hN1 : W1.heap[w.heap.size]? = some (.cells ROW 51 (0, 0)) := by rw [hW1]; exact heap_alloc_new w.drew _
  have o1 : Only (fun _ => False) w W1 := by rw [hW1]; exact ((Only.refl _ w).drew).alloc _
  have h2 : One W1 vb e := ⟨o1.heap h1.hp id⟩
  obtain ⟨cur1, hg1, hs1, hc1⟩ := heap_setCells (w := W1) (g := w.heap.size) (cur := ROW) (ents [e]) (i * 2) hN1 (by simp [ents]; omega)
  have o2 : Only (fun _ => False) w ((W1.setCells w.heap.size (i * 2) (ents [e]))) := only_puts (S := fun _ => False) w.heap.size (.inr (Nat.le_refl _)) _ _ o1
  obtain ⟨cur2, hg2, hs2, hc2⟩ := heap_setCells (w := (W1.setCells w.heap.size (i * 2) (ents [e])).drew) (g := w.heap.size) (cur := cur1) (ents (l.drop i)) ((i + 1) * 2) hg1 (by omega)
  have o3 : Only (fun _ => False) w ((W1.setCells w.heap.size (i * 2) (ents [e])).drew.setCells w.heap.size ((i + 1) * 2) (ents (l.drop i))) := only_puts (S := fun _ => False) w.heap.size (.inr (Nat.le_refl _)) _ _ o2.drew
  have fin : Hid (OwnE ((W1.setCells w.heap.size (i * 2) (ents [e])).drew.setCells w.heap.size ((i + 1) * 2) (ents (l.drop i))) B (.slice (some ⟨w.heap.size, 0, none⟩) (n + 1) G) (l.take i ++ e :: l.drop i) ∧ Only (fun _ => False) w ((W1.setCells w.heap.size (i * 2) (ents [e])).drew.setCells w.heap.size ((i + 1) * 2) (ents (l.drop i)))) := by
    refine ⟨own_of hB hg2 hGn (by unfold maxLen; omega) (by omega) (by simp; omega) ?_, o3⟩
    have e1 : l.take i ++ e :: l.drop i = (l.take i ++ [e]) ++ l.drop i := by simp
    have e2 : (ents [e]).length = 2 := rfl
    have e3 : cur1.toList.take ((i + 1) * 2) = ents (l.take i ++ [e]) := by
      rw [hc1, hRt, List.take_append_of_le_length (by rw [List.length_append, ents_len, List.length_take, e2]; omega), List.take_of_length_le (by rw [List.length_append, ents_len, List.length_take, e2]; omega), ents_app]
    rw [hc2, e3, e1, ents_app (l.take i ++ [e])]
    rw [List.take_append_of_le_length (by rw [List.length_append, ents_len, hdl, List.length_append, List.length_take]; simp; omega), List.take_of_length_le (by rw [List.length_append, ents_len, hdl, List.length_append, List.length_take]; simp; omega)]
  have hcpA : ∀ (W : World), W = W1 → ∀ ty dc, (Builtin.copy_ #[22, 22] ty #[.slice (some ⟨w.heap.size, i * 2, none⟩) (n + 1 - i) dc, .slice (some ⟨vb, 0, none⟩) 1 1]).run Tryz.prog W = .ok (goInt ((1 : Nat) : Int)) (W.setCells w.heap.size (i * 2) (ents [e])) := fun W hW ty dc => by
    have hNW : W.heap[w.heap.size]? = some (.cells ROW 51 (0, 0)) := by subst hW; exact hN1
    have h2W : One W vb e := by subst hW; exact h2
    exact run_copyN W _ _ ty 51 2 w.heap.size (i * 2) (n + 1 - i) dc ⟨vb, 0, none⟩ 1 1 (ents [e]) Tryz.underlying22 hsz 1 (by simp only [Nat.min_def]; split <;> omega) rfl
      (fun j u hj => by
        obtain ⟨q, hq, hc⟩ := h2W.rd.get j u hj
        injection hq with hq; subst hq; exact hc)
      (fun j hj => by rw [block_cell hNW (by simp [ents] at hj; omega)]; rfl) (fun j hj => block_free hNW) (ents_one _)
  have hoB : (W1.setCells w.heap.size (i * 2) (ents [e])).heap[g]? = some (.cells cur 51 (0, 0)) := o2.heap hg id
  have hcpB : ∀ (W : World), W.heap = (W1.setCells w.heap.size (i * 2) (ents [e])).heap → ∀ ty dc sc, (Builtin.copy_ #[22, 22] ty #[.slice (some ⟨w.heap.size, (i + 1) * 2, none⟩) (n - i) dc, .slice (some ⟨g, i * 2, none⟩) (n - i) sc]).run Tryz.prog W = .ok (goInt ((n - i : Nat) : Int)) (W.setCells w.heap.size ((i + 1) * 2) (ents (l.drop i))) := fun W hW ty dc sc => by
    have hNW : W.heap[w.heap.size]? = some (.cells cur1 51 (0, 0)) := by rw [hW]; exact hg1
    have hgW : W.heap[g]? = some (.cells cur 51 (0, 0)) := by rw [hW]; exact hoB
    exact run_copyN W _ _ ty 51 2 w.heap.size ((i + 1) * 2) (n - i) dc ⟨g, i * 2, none⟩ (n - i) sc (ents (l.drop i)) Tryz.underlying22 hsz (n - i) (by simp) hdl
      (fun j u hj => hcell W hgW (i * 2) j u (by rw [ents_drop]; exact hj))
      (fun j hj => by rw [block_cell hNW (by omega)]; rfl) (fun j hj => block_free hNW) (ents_one _)
  have mixed : Tryz.prog.follows Departure.mixedOrders = true := by kernel_rfl
  have hw0 : IntKind.i64.wrap ((n : Int) + 1) = (n : Int) + 1 := by rw [IntKind.wrap_i64]; omega
  have hw2 : IntKind.i64.wrap ((i : Int) + 1) = (i : Int) + 1 := by rw [IntKind.wrap_i64]; omega
  have hw3 : IntKind.i64.wrap ((n : Int) + 1 - (i : Int)) = (n : Int) + 1 - (i : Int) := by rw [IntKind.wrap_i64]; omega
  have t2 : ((i : Int) + 1).toNat = i + 1 := by omega
  have q1 : (0 : Int) ≤ (i : Int) + 1 := by omega
  have q3 : (i : Int) + 1 ≤ (n : Int) + 1 := by omega
  have q5 : ¬ (G = i + 1) := by omega
  have q6 : ¬ (G = i) := by omega
  have q6' : ¬ (n = i) := by omega
  have q7 : ¬ ((i : Int) = (n : Int)) := by omega
  have q8 : (n : Int) < (n : Int) + 1 := by omega
  have q9 : (i : Int) ≤ (n : Int) + 1 := by omega
  have q10 : i ≤ n := by omega
  have HX := Lib.hid hW1
  clear hcl hXi hcell hkk hik hold hG hROW hRl hRt hdl hN1 o1 o2 o3 h2 hg1 hg2 hs1 hs2 hc1 hc2 hoB hX ho h1 hg hcs hl hW1
  go_enter Tryz.func54, Tryz.ntmps54
  go_wp2_with (first
    | (at_builtin; refine Lib.wpList_append_run _ rfl _ _ _ _ rfl _ _ rfl rfl _ _ (hrz _) ?_)
    | (at_builtin; refine wpList_copy_runI _ rfl _ _ 22 22 rfl _ _ rfl rfl (hcpA _ rfl _ _) ?_))
  obtain ⟨W2, hW2⟩ : ∃ W2, W1.setCells w.heap.size (i * 2) (ents [e]) = W2 := ⟨_, rfl⟩
  rw [hW2] at hcpB fin ⊢
  clear hW2
  have hcpB' := hcpB W2.drew rfl
  go_region_law_o (refine step_copy_runI rfl _ _ 22 22 rfl _ _ (by simp [Act.eval, Act.put]) (by simp [Act.eval, Act.put]) (hcpB' _ _ _) ?_)
  go_wp2_with fail
  go_ret
  obtain ⟨f1, f2⟩ := fin.out
  exact ⟨_, rfl, f1, f2.mono (fun k h => h.elim), .inr ⟨_, rfl, Nat.le_refl _⟩⟩

theorem insert_calls (B n c i vb : Nat) (A : Option Addr) (l : List (Int × ByteArray)) (e : Int × ByteArray) (w : World) (ho : OwnE w B (.slice A n c) l) (h1 : One w vb e) (hv : (.slice A n c : Value).ownBlock ≠ some vb) (hB : B ≤ w.heap.size) (hi : i ≤ n) (hn : n ≤ 4398046511104) :
    Calls Tryz.prog 54 #[.slice A n c, .int .i64 i, .slice (some ⟨vb, 0, none⟩) 1 1] w (InsPost B (.slice A n c) (l.take i ++ e :: l.drop i) w) := by
  have hl : l.length = n := own_n ho
  by_cases h : i = n
  · subst h
    have := ins_end B i c vb A l e w ho h1 hB (by omega)
    rwa [List.take_of_length_le (by omega), List.drop_of_length_le (by omega)]
  · obtain ⟨g, cur, -, -, -, hnc, -⟩ := own_block ho (by omega)
    by_cases hr : n + 1 ≤ c
    · exact ins_shift B n c i vb A l e w ho h1 hv (by omega) hr
    · obtain rfl : c = n := by omega
      exact ins_grow B c i vb A l e w ho h1 hB (by omega) (by omega)
end Go.Proofs.YtakhcfemakapbaaGreatDoor.RkG
set_option maxRecDepth 100000
set_option linter.unusedSimpArgs false
set_option linter.unusedVariables false
namespace Go.Proofs.YtakhcfemakapbaaGreatDoor.RkH
open Go.RowKit Go.Shelf Go.Proofs.YtakhcfemakapbaaGreatDoor.Mem Go.Proofs.YtakhcfemakapbaaGreatDoor.DuA Go.Proofs.YtakhcfemakapbaaGreatDoor.DuM Go.Proofs.YtakhcfemakapbaaGreatDoor.DuN Go.Proofs.YtakhcfemakapbaaGreatDoor.RkA Go.Proofs.YtakhcfemakapbaaGreatDoor.RkC Go.Proofs.YtakhcfemakapbaaGreatDoor.RkB Go.Proofs.YtakhcfemakapbaaGreatDoor.RkE Go.Proofs.YtakhcfemakapbaaGreatDoor.RkF Go.Proofs.YtakhcfemakapbaaGreatDoor.RkG

def okk (k : ByteArray) : Prop := k.size ≤ maxLen
theorem keyed : Maps.Keyed Tryz.prog 9 := Maps.string_keyed Tryz.underlying9
theorem key_of {k : ByteArray} (hk : okk k) : keyOf Tryz.prog 9 (Value.string k) = some (klS k) := by
  unfold okk at hk
  simp [keyOf, Tryz.underlying9, mapKey, klS]
  first
    | exact hk
    | (have hmin : IntKind.i64.min = -9223372036854775808 := rfl
       have hmax : IntKind.i64.max = 9223372036854775807 := rfl
       simp only [Lit.wf, Bool.and_eq_true, decide_eq_true_eq]
       omega)
abbrev tM : TypeId := 64
abbrev Mp (w : World) (m N : Nat) (D : Dt) : Prop := w.ownsMap Tryz.prog 9 (plainElem Tryz.prog 3) m N D
/-- A Rank at block g, its map at block m, its row v. -/
structure Rk (w : World) (B g m : Nat) (v : Value) (l : List (Int × ByteArray)) (N : Nat) : Prop where
  hp : w.heap[g]? = some (.cells #[v, .map (some m)] 66 (0, 0))
  mp : ∃ D, Mp w m N D ∧ Tells klS D l
  own : OwnE w B v l
  gB : B ≤ g
  mB : B ≤ m
  gm : g ≠ m
  vg : v.ownBlock ≠ some g
  vm : v.ownBlock ≠ some m
  srt : Srt ltS l
  len : l.length ≤ N
  rng : ∀ e ∈ l, okS e.1
  kok : ∀ e ∈ l, okk e.2
/-- Its blocks. -/
def RkS (g m : Nat) (v : Value) (k : Nat) : Prop := k = g ∨ k = m ∨ v.ownBlock = some k
section
variable {w w' : World} {B g m : Nat} {v : Value} {l : List (Int × ByteArray)} {N : Nat} {S : Nat → Prop}
theorem Rk.only (h : Rk w B g m v l N) (ho : Only S w w') (hs : ∀ k, RkS g m v k → ¬ S k) : Rk w' B g m v l N := by
  obtain ⟨D, ⟨es, clock, hb, F, hn, hD⟩, hT⟩ := h.mp
  exact { h with hp := ho.heap h.hp (hs g (.inl rfl)), mp := ⟨D, ⟨es, clock, ho.heap hb (hs m (.inr (.inl rfl))), F, hn, hD⟩, hT⟩, own := own_only h.own ho (fun k hk => hs k (.inr (.inr hk))) }
theorem Rk.lt (h : Rk w B g m v l N) : ∀ k, RkS g m v k → B ≤ k ∧ k < w.heap.size := by
  intro k hk
  rcases hk with rfl | rfl | hk
  · exact ⟨h.gB, (Array.getElem?_eq_some_iff.1 h.hp).1⟩
  · obtain ⟨D, hM, _⟩ := h.mp
    exact ⟨h.mB, hM.lt⟩
  · exact h.own.lt k hk
theorem Rk.below (h : Rk w B g m v l N) (hb : Below w.heap.size w w') : Rk w' B g m v l N :=
  h.only (Only.of_below hb) (fun k hk => by have := (h.lt k hk).2; omega)
theorem Rk.drew (h : Rk w B g m v l N) : Rk w.drew B g m v l N := h.below ((Below.refl _ _).drew)
theorem Rk.drawn (h : Rk w B g m v l N) (n : Nat) : Rk (w.drewN n) B g m v l N := h.below (below_drawn_ (Below.refl _ _) n)
theorem Rk.cells (h : Rk w B g m v l N) : w.cell? ⟨g, 0, none⟩ = some v ∧ w.cell? ⟨g, 1, none⟩ = some (.map (some m)) ∧ w.frozen? ⟨g, 0, none⟩ = false := by
  have h1 := h.hp
  exact ⟨by unfold World.cell?; simp only [h1]; rfl, by unfold World.cell?; simp only [h1]; rfl, by unfold World.frozen?; simp only [h1]; rfl⟩
theorem Rk.look (h : Rk w B g m v l N) {k : ByteArray} (hk : okk k) : (Instr.lookup 64 (.map (some m)) (Value.string k) true).run Tryz.prog w = .ok (.tuple #[.int .i64 ((dueL l k).getD 0), .bool (dueL l k).isSome]) w := by
  obtain ⟨D, hM, hT⟩ := h.mp
  obtain ⟨u, ps, hrun, hv⟩ := hM.look_ok keyed Tryz.underlying64 (Tryz.zeroValue3 w) (plainElem_int Tryz.underlying3 (by decide)) (key := Value.string k) (kl := klS k) (key_of hk)
  obtain ⟨c, rfl, hc, -⟩ := plainElem_int_inv Tryz.underlying3 hv
  have hc' := congrArg Prod.fst hc
  rw [hT.at_ k] at hc'
  rw [hrun, hT.is k]
  simp only [DataW.lit.injEq, Lit.int.injEq, true_and] at hc'
  rw [hc']
end

def opt (l : List (Int × ByteArray)) (k : ByteArray) : Value := .tuple #[.int .i64 ((dueL l k).getD 0), .bool (dueL l k).isSome]
theorem score_calls (B g m : Nat) (v : Value) (l : List (Int × ByteArray)) (N : Nat) (k : ByteArray) (w : World) (h : Rk w B g m v l N) (hk : okk k) :
    Calls Tryz.prog 22 #[.pointer (some ⟨g, 0, none⟩), .string k] w fun e w' => e = .returned (opt l k) ∧ w' = w := by
  unfold opt
  obtain ⟨-, c0, -⟩ := h.cells
  have hlk := h.look hk
  generalize (dueL l k).getD 0 = T at hlk ⊢
  generalize (dueL l k).isSome = b at hlk ⊢
  go_enter Tryz.func22, Tryz.ntmps22
  go_wp2_with fail
  go_ret2
  exact ⟨rfl, rfl⟩
theorem len_calls (B g m : Nat) (v : Value) (l : List (Int × ByteArray)) (N : Nat) (w : World) (h : Rk w B g m v l N) :
    Calls Tryz.prog 15 #[.pointer (some ⟨g, 0, none⟩)] w fun e w' => e = .returned (.int .i64 l.length) ∧ w' = w := by
  have hown := h.own
  obtain ⟨c1, -, -⟩ := h.cells
  obtain ⟨A, c, rfl⟩ := own_form hown
  clear hown
  go_enter Tryz.func15, Tryz.ntmps15
  go_wp2_with fail
  go_ret
  exact ⟨rfl, rfl⟩
end Go.Proofs.YtakhcfemakapbaaGreatDoor.RkH
