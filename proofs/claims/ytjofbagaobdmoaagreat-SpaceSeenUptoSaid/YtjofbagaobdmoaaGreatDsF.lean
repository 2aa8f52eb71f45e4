/-
  slices.Insert of one element into such a row. Conditions: as stated.
-/
import Derived.Test.YtjofbagaobdmoaaGreatDsE
import Derived.Shelf.Spec.SlicesInsert
import Derived.Lib.AppendZerosOnto
import Derived.Laws.NewBlocks
set_option maxRecDepth 100000
set_option linter.unusedSimpArgs false
set_option linter.unusedVariables false
namespace Go.Proofs.YtjofbagaobdmoaaGreat.DsF
open Go.RowKit Go.Shelf Go.Lib Go.Proofs.YtjofbagaobdmoaaGreat.Mem Go.Proofs.YtjofbagaobdmoaaGreat.DuA Go.Proofs.YtjofbagaobdmoaaGreat.DuM Go.Proofs.YtjofbagaobdmoaaGreat.DuN Go.Proofs.YtjofbagaobdmoaaGreat.DuB Go.Proofs.YtjofbagaobdmoaaGreat.DsC Go.Proofs.YtjofbagaobdmoaaGreat.DsE

def InsPost (B : Nat) (v : Value) (l : List (Int × ByteArray)) (w : World) (e : Ending) (w' : World) : Prop :=
  ∃ v', e = .returned v' ∧ OwnE w' B v' l ∧ Only (fun k => v.ownBlock = some k) w w' ∧ (v'.ownBlock = v.ownBlock ∨ ∃ k, v'.ownBlock = some k ∧ w.heap.size ≤ k)
/-- The one element that is put in, in its own block. -/
structure One (w : World) (vb : Nat) (e : Int × ByteArray) : Prop where
  hp : w.heap[vb]? = some (eo e)
theorem One.rd {w : World} {vb : Nat} {e : Int × ByteArray} (h : One w vb e) : RdE w (some ⟨vb, 0, none⟩) 1 1 [e] := by
  refine ⟨rfl, Nat.le_refl _, by unfold maxLen; omega, fun j x hj => ⟨_, rfl, ?_⟩⟩
  rw [add_mk]
  unfold World.cell?
  simp only [h.hp]
  match j, hj with
  | 0, hj => exact hj
  | 1, hj => exact hj
  | j + 2, hj => simp [ents] at hj

set_option maxHeartbeats 2000000 in
theorem ins_end (B n c vb : Nat) (A : Option Addr) (l : List (Int × ByteArray)) (e : Int × ByteArray) (w : World) (ho : OwnE w B (.slice A n c) l) (h1 : One w vb e) (hB : B ≤ w.heap.size) (hn : (n + 1) * 24 ≤ 140737488355328) :
    Calls Tryz.prog 91 #[.slice A n c, .int .i64 n, .slice (some ⟨vb, 0, none⟩) 1 1] w (InsPost B (.slice A n c) (l ++ [e]) w) := by
  have hl : l.length = n := own_n ho
  have ho' : w.ownsRow B 130 2 (.slice A n c) n (ents l) := by have := ho; unfold OwnE at this; rwa [hl] at this
  have hr := Rd.of_own ho'
  have hc1 := hr.cap
  have hc2 : c ≤ 9223372036854775807 := hr.big
  have hrv := h1.rd
  have HL := Lib.hid hl
  clear hr ho hl
  rcases A with _ | ⟨ab, ao, asp⟩
  all_goals (
    go_enter Tryz.func91, Tryz.ntmps91
    go_wp2_with (at_builtin; refine wpList_app rfl (.tmp 23) (.tmp 24) elE rfl B _ n _ rfl ho' (some ⟨vb, 0, none⟩) 1 1 (ents [e]) rfl hrv (ents_one _) (by unfold maxLen; omega) (by omega) hB ?_; intro v w1 o1 b1 f1)
    all_goals (
      go_ret
      refine ⟨_, rfl, ?_, b1, ?_⟩
      · unfold OwnE
        rw [ents_app, List.length_append, HL.out]
        exact o1
      · rcases f1 with f1 | f1
        · exact .inl f1
        · exact .inr ⟨_, f1, Nat.le_refl _⟩))

theorem take3 {α : Type} {a b c d : List α} {k m : Nat} (hk : k = a.length + b.length + m) (hd : c.take m = d) : (a ++ b ++ c).take k = a ++ (b ++ d) := by
  subst hk hd
  rw [List.append_assoc, Nat.add_assoc, List.take_length_add_append, List.take_length_add_append]

set_option maxHeartbeats 4000000 in
theorem ins_shift (B n c i vb : Nat) (A : Option Addr) (l : List (Int × ByteArray)) (e : Int × ByteArray) (w : World) (ho : OwnE w B (.slice A n c) l) (h1 : One w vb e) (hv : (.slice A n c : Value).ownBlock ≠ some vb) (hi : i < n) (hroom : n + 1 ≤ c) :
    Calls Tryz.prog 91 #[.slice A n c, .int .i64 i, .slice (some ⟨vb, 0, none⟩) 1 1] w (InsPost B (.slice A n c) (l.take i ++ e :: l.drop i) w) := by
  obtain ⟨g, cur, rfl, hB, hg, hnc, hcm, hcs, hl, hX⟩ := own_block ho (by omega)
  have hcm' : c ≤ 9223372036854775807 := hcm
  have hvg : vb ≠ g := fun e => hv (by rw [e]; rfl)
  obtain ⟨ii, hii, hz0, hz1, hz2⟩ := elE.info
  have hsz : (Tryz.prog.info? 130).map (·.size) = some 2 := by rw [hii]; simp [hz1]
  obtain ⟨news, hnews⟩ : ∃ news, news = ents (l.drop i) := ⟨_, rfl⟩
  have hlen : news.length = (n - i) * 2 := by rw [hnews, ents_len, List.length_drop, hl]
  have hcl : cur.toList.length = c * 2 := by simpa using hcs
  have hnews' : news = (cur.toList.take (n * 2)).drop (i * 2) := by rw [hX, ents_drop, hnews]
  have hsrc : ∀ t u, news[t]? = some u → w.drew.cell? ((⟨g, i * 2, none⟩ : Addr).add t) = some u := by
    intro t u hu
    rw [hnews', List.getElem?_drop, List.getElem?_take] at hu
    split at hu
    · rw [add_mk]
      have := (List.getElem?_eq_some_iff.1 hu).1
      show w.cell? _ = _
      rw [block_cell hg (by omega)]
      rw [Array.getElem?_toList] at hu
      rw [Array.getElem?_eq_getElem (by omega)] at hu
      exact hu
    · cases hu
  have hcp1 : ∀ ty dc sc, (Builtin.copy_ #[126, 126] ty #[.slice (some ⟨g, (i + 1) * 2, none⟩) (n - i) dc, .slice (some ⟨g, i * 2, none⟩) (n + 1 - i) sc]).run Tryz.prog w.drew = .ok (goInt ((n - i : Nat) : Int)) (w.drew.setCells g ((i + 1) * 2) news) := fun ty dc sc =>
    run_copyN w.drew _ _ ty 130 2 g ((i + 1) * 2) (n - i) dc ⟨g, i * 2, none⟩ (n + 1 - i) sc news Tryz.underlying126 hsz (n - i) (by simp only [Nat.min_def]; split <;> omega) hlen hsrc
      (fun j hj => by show (w.cell? _).isSome = true; rw [block_cell hg (by omega)]; rfl) (fun j hj => block_free hg) (by rw [hnews]; exact ents_one _)
  obtain ⟨W1, hW1⟩ : ∃ W1, W1 = w.drew.setCells g ((i + 1) * 2) news := ⟨_, rfl⟩
  obtain ⟨cur1, hg1, hs1, hc1⟩ := heap_setCells (w := w.drew) (g := g) (cur := cur) news ((i + 1) * 2) hg (by omega)
  rw [← hW1] at hcp1 hg1
  have o1 : Only (fun k => k = g) w W1 := by rw [hW1]; exact only_puts (S := fun k => k = g) g (.inl rfl) _ _ ((Only.refl _ w).drew)
  have h2 : One W1 vb e := ⟨o1.heap h1.hp hvg⟩
  have hcp2 : ∀ ty dc, (Builtin.copy_ #[126, 126] ty #[.slice (some ⟨g, i * 2, none⟩) (n + 1 - i) dc, .slice (some ⟨vb, 0, none⟩) 1 1]).run Tryz.prog W1 = .ok (goInt 1) (W1.setCells g (i * 2) (ents [e])) := fun ty dc =>
    run_copyN W1 _ _ ty 130 2 g (i * 2) (n + 1 - i) dc ⟨vb, 0, none⟩ 1 1 (ents [e]) Tryz.underlying126 hsz 1 (by simp only [Nat.min_def]; split <;> omega) rfl
      (fun j u hj => by
        obtain ⟨q, hq, hc⟩ := h2.rd.get j u hj
        injection hq with hq; subst hq; exact hc)
      (fun j hj => by rw [block_cell hg1 (by simp [ents] at hj; omega)]; rfl) (fun j hj => block_free hg1) (ents_one _)
  obtain ⟨cur2, hg2, hs2, hc2⟩ := heap_setCells (w := W1) (g := g) (cur := cur1) (ents [e]) (i * 2) hg1 (by simp [ents]; omega)
  have o2 : Only (fun k => k = g) w (W1.setCells g (i * 2) (ents [e])) := only_puts (S := fun k => k = g) g (.inl rfl) _ _ o1
  have fin : Hid (OwnE (W1.setCells g (i * 2) (ents [e])) B (.slice (some ⟨g, 0, none⟩) (n + 1) c) (l.take i ++ e :: l.drop i) ∧ Only (fun k => k = g) w (W1.setCells g (i * 2) (ents [e]))) := by
    refine ⟨own_of hB hg2 hroom hcm (by omega) (by simp; omega) ?_, o2⟩
    have hc1l : cur1.toList.length = c * 2 := by simp; omega
    have e1 : l.take i ++ e :: l.drop i = l.take i ++ ([e] ++ l.drop i) := rfl
    have e2 : (ents [e]).length = 2 := rfl
    have e3 : cur1.toList.take (i * 2) = ents (l.take i) := by
      rw [hc1, List.append_assoc, List.take_append_of_le_length (by rw [List.length_take]; omega), List.take_take, show min (i * 2) ((i + 1) * 2) = i * 2 by omega, ← ents_take, ← hX, List.take_take, show min (i * 2) (n * 2) = i * 2 by omega]
    have e4 : (cur1.toList.drop (i * 2 + 2)).take ((n - i) * 2) = news := by
      have e5 : (cur.toList.take ((i + 1) * 2)).length = (i + 1) * 2 := by rw [List.length_take]; omega
      rw [hc1, show i * 2 + 2 = (i + 1) * 2 by omega, List.append_assoc, List.drop_append_of_le_length (by omega), List.drop_of_length_le (by omega), List.nil_append, List.take_append_of_le_length (by omega), List.take_of_length_le (by omega)]
    rw [hc2, e1, ents_app, ents_app, e3, ← hnews]
    exact take3 (by rw [ents_len, List.length_take, e2, hl, show min i n = i by omega]; omega) e4
  have hov : ∀ lb cb, (callFunc 101 #[.slice (some ⟨vb, 0, none⟩) 1 1, .slice (some ⟨g, (i + 1) * 2, none⟩) lb cb]).run Tryz.prog w = .ok (.value (.bool false)) w := fun lb cb => by
    rw [run_callFunc_extern Tryz.func101 (by kernel_rfl) (by kernel_rfl) (by kernel_rfl) (e := Extern.SlicesOverlaps.overlaps #[126, 126] #[4]) (by kernel_rfl),
      Lib.run_overlaps_apart w 126 4 130 Tryz.underlying126 2 (by intro w; kernel_rfl) ⟨vb, 0, none⟩ ⟨g, (i + 1) * 2, none⟩ 1 1 lb cb hvg 130 130 2 cur.size (by unfold World.shape?; simp only [h1.hp]; rfl) (by unfold World.shape?; simp only [hg]) (by omega) (block_free h1.hp) (block_free h1.hp)]
    rfl
  have hW : Hid (W1 = w.drew.setCells g ((i + 1) * 2) news) := hW1
  have hw1 : IntKind.i64.wrap ((n : Int) + 1) = (n : Int) + 1 := by rw [IntKind.wrap_i64]; omega
  have hw2 : IntKind.i64.wrap ((i : Int) + 1) = (i : Int) + 1 := by rw [IntKind.wrap_i64]; omega
  have t1 : ((n : Int) + 1).toNat = n + 1 := by omega
  have t2 : ((i : Int) + 1).toNat = i + 1 := by omega
  have q1 : (0 : Int) ≤ (i : Int) + 1 := by omega
  have q2 : (0 : Int) ≤ (n : Int) + 1 := by omega
  have q3 : (i : Int) + 1 ≤ (n : Int) + 1 := by omega
  have q4 : (n : Int) + 1 ≤ (c : Int) := by omega
  have q5 : ¬ (c = i + 1) := by omega
  have q6 : ¬ (c = i) := by omega
  have q7 : ¬ ((i : Int) = (n : Int)) := by omega
  have q8 : ¬ ((c : Int) < (n : Int) + 1) := by omega
  have q9 : (i : Int) ≤ (n : Int) + 1 := by omega
  have q10 : i ≤ n := by omega
  have mixed : Tryz.prog.follows Departure.mixedOrders = true := by kernel_rfl
  clear hW1 hg hg1 hg2 hc1 hc2 hs1 hs2 hnews hnews' hlen hX hcl o1 o2 ho hl hcs hsrc h2 h1
  go_enter Tryz.func91, Tryz.ntmps91
  go_wp2_with (simp only [hov])
  go_region_law_o (refine step_copy_runI rfl _ _ 126 126 rfl _ _ (by simp [Act.eval, Act.put]) (by simp [Act.eval, Act.put]) (hcp1 _ _ _) ?_)
  go_wp2_with (at_builtin; refine wpList_copy_runI _ rfl _ _ 126 126 rfl _ _ rfl rfl (hcp2 _ _) ?_)
  go_ret
  obtain ⟨f1, f2⟩ := fin.out
  exact ⟨_, rfl, f1, f2.mono (fun k h => by rw [h]; rfl), .inl rfl⟩
end Go.Proofs.YtjofbagaobdmoaaGreat.DsF
