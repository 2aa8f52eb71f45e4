/-
  slices.Insert of one element into such a row, where there is no room; whatever the room. Conditions: as stated.
-/
import Derived.Test.YtjofbagaobdmoaaGreatDsF
set_option maxRecDepth 100000
set_option linter.unusedSimpArgs false
set_option linter.unusedVariables false
namespace Go.Proofs.YtjofbagaobdmoaaGreat.DsG
open Go.RowKit Go.Shelf Go.Lib Go.Proofs.YtjofbagaobdmoaaGreat.Mem Go.Proofs.YtjofbagaobdmoaaGreat.DuA Go.Proofs.YtjofbagaobdmoaaGreat.DuM Go.Proofs.YtjofbagaobdmoaaGreat.DuN Go.Proofs.YtjofbagaobdmoaaGreat.DuB Go.Proofs.YtjofbagaobdmoaaGreat.DsC Go.Proofs.YtjofbagaobdmoaaGreat.DsE Go.Proofs.YtjofbagaobdmoaaGreat.DsF

abbrev zE : Value := .agg #[.int .i64 0, .string ⟨#[]⟩]
theorem zero_size (k : Nat) : (Builtin.zeroCells zE.cells k).size = k * 2 := by
  have h : zE.cells.size = 2 := rfl
  simp [Builtin.zeroCells, h]

set_option maxHeartbeats 4000000 in
theorem ins_grow (B n i vb : Nat) (A : Option Addr) (l : List (Int × ByteArray)) (e : Int × ByteArray) (w : World) (ho : OwnE w B (.slice A n n) l) (h1 : One w vb e) (hB : B ≤ w.heap.size) (hi : i < n) (hn : (n + 1) * 24 ≤ 140737488355328) :
    Calls Tryz.prog 91 #[.slice A n n, .int .i64 i, .slice (some ⟨vb, 0, none⟩) 1 1] w (InsPost B (.slice A n n) (l.take i ++ e :: l.drop i) w) := by
  obtain ⟨g, cur, rfl, hgB, hg, hnc, hcm, hcs, hl, hX⟩ := own_block ho (by omega)
  obtain ⟨ii, hii, hz0, hz1, hz2⟩ := elE.info
  have hsz : (Tryz.prog.info? 130).map (·.size) = some 2 := by rw [hii]; simp [hz1]
  have hbw : g < w.heap.size := (Array.getElem?_eq_some_iff.1 hg).1
  have hvw : vb < w.heap.size := (Array.getElem?_eq_some_iff.1 h1.hp).1
  have hcl : cur.toList.length = n * 2 := by simpa using hcs
  have hXi : cur.toList = ents l := by rw [← hX, List.take_of_length_le (by omega)]
  have hcell : ∀ (W : World), W.heap[g]? = some (.cells cur 130 (0, 0)) → ∀ (o : Nat) t u, ((ents l).drop o)[t]? = some u → W.cell? ((⟨g, o, none⟩ : Addr).add t) = some u := by
    intro W hW o t u hu
    rw [List.getElem?_drop, ← hXi] at hu
    have := (List.getElem?_eq_some_iff.1 hu).1
    rw [add_mk, block_cell hW (by simpa using this)]
    rw [Array.getElem?_toList] at hu
    rw [Array.getElem?_eq_getElem (by simpa using this)] at hu
    exact hu
  have hkk : (n : Int) + 1 - (i : Int) = ((n + 1 - i : Nat) : Int) := by omega
  have hik : i + (n + 1 - i) = n + 1 := by omega
  have hold : (Builtin.firstCells ii.size i (.slice (some ⟨g, 0, none⟩) i n)).run Tryz.prog w.drew = .ok (ents (l.take i)).toArray w.drew := by
    rw [hz1]
    exact run_firstCells_some w.drew 2 i ⟨g, 0, none⟩ i n (ents (l.take i)) (by rw [ents_len, List.length_take]; omega) (fun j v hj => by
      rw [← ents_take, List.getElem?_take] at hj
      split at hj
      · exact hcell w.drew hg 0 j v (by simpa using hj)
      · cases hj)
  have hrz : ∀ ty, (Builtin.append_ #[126, 3] ty #[.slice (some ⟨g, 0, none⟩) i n, .int .i64 ((n : Int) + 1 - (i : Int))]).run Tryz.prog w =
      .ok (.slice (some ⟨w.heap.size, 0, none⟩) (n + 1) (grownCap w (n + 1) n 130)) (w.drew.alloc (.cells ((ents (l.take i)).toArray ++ Builtin.zeroCells zE.cells (n + 1 - i) ++ Builtin.zeroCells zE.cells (grownCap w (n + 1) n 130 - (n + 1))) 130)) := fun ty => by
    have h := Lib.run_append_grow_zeros w 126 3 ty 130 ii _ .i64 .i64 Tryz.underlying126 Tryz.underlying3 hii hz0 (some ⟨g, 0, none⟩) i n (ents (l.take i)) hold (n + 1 - i) (by omega) (by omega) (by omega) (by omega) (by rw [hz2]; omega) (by rw [hz2, hik]; exact growslice_fits (by omega) (by omega))
    rw [hik] at h
    rw [hkk]
    exact h
  obtain ⟨G, hG⟩ : ∃ G, G = grownCap w (n + 1) n 130 := ⟨_, rfl⟩
  have hGn : n + 1 ≤ G := by rw [hG]; exact grownCap_ge w _ _ _
  have hG63 : G ≤ 9223372036854775807 := by
    have := grownCap_le_maxLen w (n + 1) n 130 (by unfold maxLen; omega)
    rw [← hG] at this
    unfold maxLen at this
    omega
  obtain ⟨ROW, hROW⟩ : ∃ ROW : Array Value, ROW = (ents (l.take i)).toArray ++ Builtin.zeroCells zE.cells (n + 1 - i) ++ Builtin.zeroCells zE.cells (G - (n + 1)) := ⟨_, rfl⟩
  rw [← hG] at hrz
  rw [← hROW] at hrz
  have hRl : ROW.size = G * 2 := by
    rw [hROW, Array.size_append, Array.size_append, zero_size, zero_size, List.size_toArray, ents_len, List.length_take]
    omega
  have hRt : ROW.toList.take (i * 2) = ents (l.take i) := by
    rw [hROW]
    simp only [Array.toList_append]
    rw [List.append_assoc, List.take_append_of_le_length (by rw [ents_len, List.length_take]; omega), List.take_of_length_le (by rw [ents_len, List.length_take]; omega)]
  have hdl : (ents (l.drop i)).length = (n - i) * 2 := by rw [ents_len, List.length_drop, hl]
  obtain ⟨W1, hW1⟩ : ∃ W1, W1 = w.drew.alloc (.cells ROW 130) := ⟨_, rfl⟩
  rw [← hW1] at hrz
  have hN1 : W1.heap[w.heap.size]? = some (.cells ROW 130 (0, 0)) := by rw [hW1]; exact heap_alloc_new w.drew _
  have o1 : Only (fun _ => False) w W1 := by rw [hW1]; exact ((Only.refl _ w).drew).alloc _
  have h2 : One W1 vb e := ⟨o1.heap h1.hp id⟩
  obtain ⟨cur1, hg1, hs1, hc1⟩ := heap_setCells (w := W1) (g := w.heap.size) (cur := ROW) (ents [e]) (i * 2) hN1 (by simp [ents]; omega)
  have o2 : Only (fun _ => False) w ((W1.setCells w.heap.size (i * 2) (ents [e]))) := only_puts (S := fun _ => False) w.heap.size (.inr (Nat.le_refl _)) _ _ o1
  obtain ⟨cur2, hg2, hs2, hc2⟩ := heap_setCells (w := (W1.setCells w.heap.size (i * 2) (ents [e])).drew) (g := w.heap.size) (cur := cur1) (ents (l.drop i)) ((i + 1) * 2) hg1 (by omega)
  have o3 : Only (fun _ => False) w ((W1.setCells w.heap.size (i * 2) (ents [e])).drew.setCells w.heap.size ((i + 1) * 2) (ents (l.drop i))) := only_puts (S := fun _ => False) w.heap.size (.inr (Nat.le_refl _)) _ _ o2.drew
  have fin : Hid (OwnE ((W1.setCells w.heap.size (i * 2) (ents [e])).drew.setCells w.heap.size ((i + 1) * 2) (ents (l.drop i))) B (.slice (some ⟨w.heap.size, 0, none⟩) (n + 1) G) (l.take i ++ e :: l.drop i) ∧ Only (fun _ => False) w ((W1.setCells w.heap.size (i * 2) (ents [e])).drew.setCells w.heap.size ((i + 1) * 2) (ents (l.drop i)))) := by
    refine ⟨own_of hB hg2 hGn (by unfold maxLen; omega) (by omega) (by simp; omega) ?_, o3⟩
    have e1 : l.take i ++ e :: l.drop i = (l.take i ++ [e]) ++ l.drop i := by simp
    have e2 : (ents [e]).length = 2 := rfl
    have e3 : cur1.toList.take ((i + 1) * 2) = ents (l.take i ++ [e]) := by
      rw [hc1, hRt, List.take_append_of_le_length (by rw [List.length_append, ents_len, List.length_take, e2]; omega), List.take_of_length_le (by rw [List.length_append, ents_len, List.length_take, e2]; omega), ents_app]
    rw [hc2, e3, e1, ents_app (l.take i ++ [e])]
    rw [List.take_append_of_le_length (by rw [List.length_append, ents_len, hdl, List.length_append, List.length_take]; simp; omega), List.take_of_length_le (by rw [List.length_append, ents_len, hdl, List.length_append, List.length_take]; simp; omega)]
  have hcpA : ∀ (W : World), W = W1 → ∀ ty dc, (Builtin.copy_ #[126, 126] ty #[.slice (some ⟨w.heap.size, i * 2, none⟩) (n + 1 - i) dc, .slice (some ⟨vb, 0, none⟩) 1 1]).run Tryz.prog W = .ok (goInt ((1 : Nat) : Int)) (W.setCells w.heap.size (i * 2) (ents [e])) := fun W hW ty dc => by
    have hNW : W.heap[w.heap.size]? = some (.cells ROW 130 (0, 0)) := by subst hW; exact hN1
    have h2W : One W vb e := by subst hW; exact h2
    exact run_copyN W _ _ ty 130 2 w.heap.size (i * 2) (n + 1 - i) dc ⟨vb, 0, none⟩ 1 1 (ents [e]) Tryz.underlying126 hsz 1 (by simp only [Nat.min_def]; split <;> omega) rfl
      (fun j u hj => by
        obtain ⟨q, hq, hc⟩ := h2W.rd.get j u hj
        injection hq with hq; subst hq; exact hc)
      (fun j hj => by rw [block_cell hNW (by simp [ents] at hj; omega)]; rfl) (fun j hj => block_free hNW) (ents_one _)
  have hoB : (W1.setCells w.heap.size (i * 2) (ents [e])).heap[g]? = some (.cells cur 130 (0, 0)) := o2.heap hg id
  have hcpB : ∀ (W : World), W.heap = (W1.setCells w.heap.size (i * 2) (ents [e])).heap → ∀ ty dc sc, (Builtin.copy_ #[126, 126] ty #[.slice (some ⟨w.heap.size, (i + 1) * 2, none⟩) (n - i) dc, .slice (some ⟨g, i * 2, none⟩) (n - i) sc]).run Tryz.prog W = .ok (goInt ((n - i : Nat) : Int)) (W.setCells w.heap.size ((i + 1) * 2) (ents (l.drop i))) := fun W hW ty dc sc => by
    have hNW : W.heap[w.heap.size]? = some (.cells cur1 130 (0, 0)) := by rw [hW]; exact hg1
    have hgW : W.heap[g]? = some (.cells cur 130 (0, 0)) := by rw [hW]; exact hoB
    exact run_copyN W _ _ ty 130 2 w.heap.size ((i + 1) * 2) (n - i) dc ⟨g, i * 2, none⟩ (n - i) sc (ents (l.drop i)) Tryz.underlying126 hsz (n - i) (by simp) hdl
      (fun j u hj => hcell W hgW (i * 2) j u (by rw [ents_drop]; exact hj))
      (fun j hj => by rw [block_cell hNW (by omega)]; rfl) (fun j hj => block_free hNW) (ents_one _)
  have mixed : Tryz.prog.follows Departure.mixedOrders = true := by kernel_rfl
  have hw0 : IntKind.i64.wrap ((n : Int) + 1) = (n : Int) + 1 := by rw [IntKind.wrap_i64]; omega
  have hw2 : IntKind.i64.wrap ((i : Int) + 1) = (i : Int) + 1 := by rw [IntKind.wrap_i64]; omega
  have hw3 : IntKind.i64.wrap ((n : Int) + 1 - (i : Int)) = (n : Int) + 1 - (i : Int) := by rw [IntKind.wrap_i64]; omega
  have t2 : ((i : Int) + 1).toNat = i + 1 := by omega
  have q1 : (0 : Int) ≤ (i : Int) + 1 := by omega
  have q3 : (i : Int) + 1 ≤ (n : Int) + 1 := by omega
  have q5 : ¬ (G = i + 1) := by omega
  have q6 : ¬ (G = i) := by omega
  have q6' : ¬ (n = i) := by omega
  have q7 : ¬ ((i : Int) = (n : Int)) := by omega
  have q8 : (n : Int) < (n : Int) + 1 := by omega
  have q9 : (i : Int) ≤ (n : Int) + 1 := by omega
  have q10 : i ≤ n := by omega
  have HX := Lib.hid hW1
  clear hcl hXi hcell hkk hik hold hG hROW hRl hRt hdl hN1 o1 o2 o3 h2 hg1 hg2 hs1 hs2 hc1 hc2 hoB hX ho h1 hg hcs hl hW1
  go_enter Tryz.func91, Tryz.ntmps91
  go_wp2_with (first
    | (at_builtin; refine Lib.wpList_append_run _ rfl _ _ _ _ rfl _ _ rfl rfl _ _ (hrz _) ?_)
    | (at_builtin; refine wpList_copy_runI _ rfl _ _ 126 126 rfl _ _ rfl rfl (hcpA _ rfl _ _) ?_))
  obtain ⟨W2, hW2⟩ : ∃ W2, W1.setCells w.heap.size (i * 2) (ents [e]) = W2 := ⟨_, rfl⟩
  rw [hW2] at hcpB fin ⊢
  clear hW2
  have hcpB' := hcpB W2.drew rfl
  go_region_law_o (refine step_copy_runI rfl _ _ 126 126 rfl _ _ (by simp [Act.eval, Act.put]) (by simp [Act.eval, Act.put]) (hcpB' _ _ _) ?_)
  go_wp2_with fail
  go_ret
  obtain ⟨f1, f2⟩ := fin.out
  exact ⟨_, rfl, f1, f2.mono (fun k h => h.elim), .inr ⟨_, rfl, Nat.le_refl _⟩⟩

theorem insert_calls (B n c i vb : Nat) (A : Option Addr) (l : List (Int × ByteArray)) (e : Int × ByteArray) (w : World) (ho : OwnE w B (.slice A n c) l) (h1 : One w vb e) (hv : (.slice A n c : Value).ownBlock ≠ some vb) (hB : B ≤ w.heap.size) (hi : i ≤ n) (hn : n ≤ 4398046511104) :
    Calls Tryz.prog 91 #[.slice A n c, .int .i64 i, .slice (some ⟨vb, 0, none⟩) 1 1] w (InsPost B (.slice A n c) (l.take i ++ e :: l.drop i) w) := by
  have hl : l.length = n := own_n ho
  by_cases h : i = n
  · subst h
    have := ins_end B i c vb A l e w ho h1 hB (by omega)
    rwa [List.take_of_length_le (by omega), List.drop_of_length_le (by omega)]
  · obtain ⟨g, cur, -, -, -, hnc, -⟩ := own_block ho (by omega)
    by_cases hr : n + 1 ≤ c
    · exact ins_shift B n c i vb A l e w ho h1 hv (by omega) hr
    · obtain rfl : c = n := by omega
      exact ins_grow B c i vb A l e w ho h1 hB (by omega) (by omega)
end Go.Proofs.YtjofbagaobdmoaaGreat.DsG
