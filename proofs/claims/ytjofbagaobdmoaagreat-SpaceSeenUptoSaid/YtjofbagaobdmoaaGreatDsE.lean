/-
  slices.Delete of one element of such a row. Conditions: as stated.
-/
import Derived.Test.YtjofbagaobdmoaaGreatDsC
import Derived.Deep.RegionLaw
import Derived.Shelf.RegionOpenPlain
import Derived.Lib.Hide
set_option maxRecDepth 100000
set_option linter.unusedSimpArgs false
set_option linter.unusedVariables false
namespace Go.Proofs.YtjofbagaobdmoaaGreat.DsE
open Go.RowKit Go.Shelf Go.Lib Go.Proofs.YtjofbagaobdmoaaGreat.Mem Go.Proofs.YtjofbagaobdmoaaGreat.DuA Go.Proofs.YtjofbagaobdmoaaGreat.DuM Go.Proofs.YtjofbagaobdmoaaGreat.DuN Go.Proofs.YtjofbagaobdmoaaGreat.DuB Go.Proofs.YtjofbagaobdmoaaGreat.DsC

/-- A row of entries of the call's own. -/
abbrev OwnE (w : World) (B : Nat) (v : Value) (l : List (Int × ByteArray)) : Prop := w.ownsRow B 130 2 v l.length (ents l)
theorem own_block {w : World} {B n c : Nat} {A : Option Addr} {l : List (Int × ByteArray)} (h : OwnE w B (.slice A n c) l) (hn : 0 < n) :
    ∃ g cur, A = some ⟨g, 0, none⟩ ∧ B ≤ g ∧ w.heap[g]? = some (.cells cur 130 (0, 0)) ∧ n ≤ c ∧ c ≤ maxLen ∧ cur.size = c * 2 ∧ l.length = n ∧ cur.toList.take (n * 2) = ents l := by
  have hl : l.length = n := own_n h
  rcases h.2 with ⟨e, h0⟩ | ⟨g, cap, cur, e, h1, h2, h3, h4, h5, h6⟩
  · injection e with _ e2 _; omega
  · injection e with e1 e2 e3
    subst e1 e3
    rw [hl] at h3 h6
    exact ⟨g, cur, rfl, h1, h2, h3, h4, h5, hl, h6⟩
theorem own_of {w : World} {B n c g : Nat} {cur : Array Value} {l : List (Int × ByteArray)} (h1 : B ≤ g) (h2 : w.heap[g]? = some (.cells cur 130 (0, 0))) (h3 : n ≤ c) (h4 : c ≤ maxLen) (h5 : cur.size = c * 2) (hl : l.length = n) (h6 : cur.toList.take (n * 2) = ents l) : OwnE w B (.slice (some ⟨g, 0, none⟩) n c) l := by
  subst hl
  exact ⟨by rw [ents_len], .inr ⟨g, c, cur, rfl, h1, h2, h3, h4, h5, h6⟩⟩

set_option maxHeartbeats 2000000 in
theorem delete_calls (B n c i : Nat) (A : Option Addr) (l : List (Int × ByteArray)) (w : World) (ho : OwnE w B (.slice A n c) l) (hi : i < n) :
    Calls Tryz.prog 90 #[.slice A n c, .int .i64 i, .int .i64 ((i : Int) + 1)] w fun e w' =>
      e = .returned (.slice A (n - 1) c) ∧ OwnE w' B (.slice A (n - 1) c) (l.take i ++ l.drop (i + 1)) ∧ Only (fun k => (.slice A n c : Value).ownBlock = some k) w w' := by
  obtain ⟨g, cur, rfl, hB, hg, hnc, hcm, hcs, hl, hX⟩ := own_block ho (by omega)
  have hcm' : c ≤ 9223372036854775807 := hcm
  obtain ⟨ii, hii, hz0, hz1, hz2⟩ := elE.info
  obtain ⟨news, hnews⟩ : ∃ news, news = ents (l.drop (i + 1)) := ⟨_, rfl⟩
  have hlen : news.length = (n - (i + 1)) * 2 := by rw [hnews, ents_len, List.length_drop, hl]
  have hcl : cur.toList.length = c * 2 := by simpa using hcs
  have hnews' : news = (cur.toList.take (n * 2)).drop ((i + 1) * 2) := by rw [hX, ents_drop, hnews]
  obtain ⟨A', hA', hsrc⟩ : ∃ A' : Addr, (if c = i + 1 then some (⟨g, 0, none⟩ : Addr) else some ⟨g, (i + 1) * 2, none⟩) = some A' ∧ Hid (∀ t u, news[t]? = some u → w.drew.cell? (A'.add t) = some u) := by
    by_cases h : c = i + 1
    · refine ⟨⟨g, 0, none⟩, by simp [h], fun t u hu => ?_⟩
      have h0 : news.length = 0 := by rw [hlen]; omega
      rw [List.length_eq_zero_iff.1 h0] at hu
      simp at hu
    · refine ⟨⟨g, (i + 1) * 2, none⟩, by simp [h], fun t u hu => ?_⟩
      rw [hnews', List.getElem?_drop, List.getElem?_take] at hu
      split at hu
      · rw [add_mk]
        have := (List.getElem?_eq_some_iff.1 hu).1
        show w.cell? _ = _
        rw [block_cell hg (by omega)]
        rw [Array.getElem?_toList] at hu
        rw [Array.getElem?_eq_getElem (by omega)] at hu
        exact hu
      · cases hu
  have s1 : Hid (news.length = (n - (i + 1)) * 2) := hlen
  have s2 : Hid (∀ u ∈ news, u.oneCell' = true) := by rw [hnews]; exact ents_one _
  have s3 : Hid (∀ t, t < news.length → (w.drew.cell? ⟨g, 0 + i * 2 + t, none⟩).isSome = true ∧ w.drew.frozen? ⟨g, 0 + i * 2 + t, none⟩ = false) := by
    intro t ht
    rw [hlen] at ht
    exact ⟨by show (w.cell? _).isSome = true; rw [block_cell hg (by omega)]; rfl, block_free hg⟩
  obtain ⟨W1, hW1⟩ : ∃ W1, W1 = w.drew.setCells g (0 + i * 2) news := ⟨_, rfl⟩
  obtain ⟨cur1, hg1, hs1, hc1⟩ := heap_setCells (w := w.drew) (g := g) (cur := cur) news (0 + i * 2) hg (by omega)
  rw [← hW1] at hg1
  have o1 : Only (fun k => k = g) w W1 := by rw [hW1]; exact only_puts (S := fun k => k = g) g (.inl rfl) _ _ ((Only.refl _ w).drew)
  have hcz : ∀ ty m, (Builtin.clear_ #[126] ty #[.slice (some ⟨g, (n - 1) * 2, none⟩) (n - (n - 1)) m]).run Tryz.prog W1 = .ok (.tuple #[]) (W1.setCells g ((n - 1) * 2) [.int .i64 0, .string ⟨#[]⟩]) :=
    fun ty m => by
     rw [show n - (n - 1) = 1 by omega]
     exact run_clearN W1 _ 130 ty (.agg #[.int .i64 0, .string ⟨#[]⟩]) Tryz.underlying126 (by intro w; kernel_rfl) g ((n - 1) * 2) 1 m (by omega) [.int .i64 0, .string ⟨#[]⟩] (by simp [Builtin.zeroCells, Value.cells, List.range_succ]) (by intro v hv; simp at hv; rcases hv with rfl | rfl <;> rfl)
      (fun j hj => by simp at hj; rw [block_cell hg1 (by omega)]; rfl) (fun j hj => block_free hg1)
  obtain ⟨cur2, hg2, hs2, hc2⟩ := heap_setCells (w := W1) (g := g) (cur := cur1) [.int .i64 0, .string ⟨#[]⟩] ((n - 1) * 2) hg1 (by simp; omega)
  have o2 : Only (fun k => k = g) w (W1.setCells g ((n - 1) * 2) [.int .i64 0, .string ⟨#[]⟩]) := only_puts (S := fun k => k = g) g (.inl rfl) _ _ o1
  have fin : Hid (OwnE (W1.setCells g ((n - 1) * 2) [.int .i64 0, .string ⟨#[]⟩]) B (.slice (some ⟨g, 0, none⟩) (n - 1) c) (l.take i ++ l.drop (i + 1)) ∧ Only (fun k => k = g) w (W1.setCells g ((n - 1) * 2) [.int .i64 0, .string ⟨#[]⟩])) := by
    refine ⟨own_of hB hg2 (by omega) hcm (by omega) (by simp; omega) ?_, o2⟩
    have hc1l : cur1.toList.length = c * 2 := by simp; omega
    rw [hc2, List.append_assoc, List.take_append_of_le_length (by rw [List.length_take]; omega), List.take_take, Nat.min_self, hc1, ents_app, ← ents_take, ← hnews, ← hX, List.take_take, show min (i * 2) (n * 2) = i * 2 by omega, Nat.zero_add, List.take_append_of_le_length (by simp; omega), List.take_of_length_le (by simp; omega)]
  have hW : Hid (W1 = w.drew.setCells g (0 + i * 2) news) := hW1
  have hic : i ≤ c := by omega
  have hjc : i + 1 ≤ c := by omega
  clear hW1 hg hg1 hg2 hc1 hc2 hs1 hs2 hnews hnews' hlen hX hcl o1 o2 ho hl hcs
  go_enter Tryz.func90, Tryz.ntmps90
  go_wp2_with fail
  have htn : ((i : Int) + 1).toNat = i + 1 := by omega
  have hb1 : (0 : Int) ≤ (i : Int) + 1 := by omega
  have hb2 : (i : Int) + 1 ≤ (n : Int) := by omega
  have mixed : Tryz.prog.follows Departure.mixedOrders = true := by kernel_rfl
  go_region_law_o (refine step_append_room rfl (.tmp 22) (.tmp 25) 126 rfl 130 ii 2 Tryz.underlying126 hii hz1 g 0 i c (by simp [Act.eval, Act.put]) A' (n - (i + 1)) (c - (i + 1)) news (by simp [Act.eval, Act.put, htn, hA']) s1.out hsrc.out s2.out (by omega) s3.out ?_; rw [← hW.out])
  rw [show i + (n - (i + 1)) = n - 1 by omega]
  go_wp2_with fail
  go_ret
  obtain ⟨f1, f2⟩ := fin.out
  exact ⟨rfl, f1, f2.mono (fun k h => by rw [h]; rfl)⟩
end Go.Proofs.YtjofbagaobdmoaaGreat.DsE
