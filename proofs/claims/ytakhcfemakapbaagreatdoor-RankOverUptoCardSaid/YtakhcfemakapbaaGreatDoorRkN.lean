/-
  A Rank's Set. Conditions: as stated. (Printed by tools/gen_rkn.py.)
-/
import Derived.Test.YtakhcfemakapbaaGreatDoorRgE
set_option maxRecDepth 100000
set_option linter.unusedSimpArgs false
set_option linter.unusedVariables false
namespace Go.Proofs.YtakhcfemakapbaaGreatDoor.RkN
open Go Go.RowKit Go.Shelf Go.Proofs.YtakhcfemakapbaaGreatDoor.Mem Go.Proofs.YtakhcfemakapbaaGreatDoor.DuA Go.Proofs.YtakhcfemakapbaaGreatDoor.DuM Go.Proofs.YtakhcfemakapbaaGreatDoor.DuN Go.Proofs.YtakhcfemakapbaaGreatDoor.RkA Go.Proofs.YtakhcfemakapbaaGreatDoor.RkC Go.Proofs.YtakhcfemakapbaaGreatDoor.RkB Go.Proofs.YtakhcfemakapbaaGreatDoor.RkE Go.Proofs.YtakhcfemakapbaaGreatDoor.RkF Go.Proofs.YtakhcfemakapbaaGreatDoor.RkG Go.Proofs.YtakhcfemakapbaaGreatDoor.RkH Go.Proofs.YtakhcfemakapbaaGreatDoor.RkI Go.Proofs.YtakhcfemakapbaaGreatDoor.RkK Go.Proofs.YtakhcfemakapbaaGreatDoor.RkL Go.Proofs.YtakhcfemakapbaaGreatDoor.RkM

def setL (l : List En) (k : ByteArray) (t : Int) : List En := if okS t then insL ltS (t, k) (dropL l k) else l
def setV (l : List En) (k : ByteArray) (t : Int) : Value := if okS t then .tuple #[.bool (!(dueL l k).isSome), .int .i64 0] else .tuple #[.bool false, .int .i64 120]
theorem Turn.more {B g m N N' : Nat} {v : Value} {l : List En} {w w' : World} (h : Turn B g m v l N w w') (hN : N ≤ N') : Turn B g m v l N' w w' := by
  obtain ⟨v', h1, h2⟩ := h
  obtain ⟨D, hM, hT⟩ := h1.mp
  exact ⟨v', { h1 with len := by have := h1.len; omega, mp := ⟨D, hM.mono hN, hT⟩ }, h2⟩
/-- The row has been put in its place, the map not yet. -/
structure P7 (w W' : World) (B g m : Nat) (v : Value) (l1 L : List En) (N : Nat) (v' : Value) : Prop where
  hp : W'.heap[g]? = some (.cells #[v', .map (some m)] 66 (0, 0))
  own : OwnE W' B v' L
  mp : ∃ D, Mp W' m N D ∧ Tells klS D l1
  vg : v'.ownBlock ≠ some g
  vm : v'.ownBlock ≠ some m
  only : Only (RkS g m v) w W'
  vv : v'.ownBlock = v.ownBlock ∨ ∃ k, v'.ownBlock = some k ∧ w.heap.size ≤ k
abbrev Sg (g : Nat) (v : Value) : Nat → Prop := fun b => b = g ∨ v.ownBlock = some b
set_option maxHeartbeats 16000000 in
theorem set_calls (B g m : Nat) (v : Value) (l : List En) (N : Nat) (k : ByteArray) (t : Int) (w : World) (h : Rk w B g m v l N) (hk : okk k) (hB : B ≤ w.heap.size) (hN : N ≤ 999999999) :
    Calls Tryz.prog 27 #[.pointer (some ⟨g, 0, none⟩), .string k, .int .i64 t] w fun e w' => e = .returned (setV l k t) ∧ Turn B g m v (setL l k t) (N + 1) w w' := by
  unfold setV setL
  have hmp := fun W => mayP_calls t W
  by_cases ht : okS t
  rotate_left
  · rw [if_neg ht, if_neg ht]
    rw [decide_eq_false ht] at hmp
    have hR := Turn.more (Turn.refl h) (Nat.le_add_right N 1)
    go_enter Tryz.func27, Tryz.ntmps27
    go_wp2_with (go_at_call 30; refine (hmp _).mono ?_; rintro e w1 ⟨rfl, hw1⟩; subst w1)
    go_ret2
    exact ⟨rfl, hR⟩
  rw [if_pos ht, if_pos ht]
  rw [decide_eq_true ht] at hmp
  have HT := Lib.hid ht
  have hnk : k ∉ (dropL l k).map (·.2) := drop_not_mem l k
  have hkT := Lib.hid hnk
  obtain ⟨l1, hl1⟩ : ∃ l1, dropL l k = l1 := ⟨_, rfl⟩
  have hdr := drop_calls B g m v l N k w h hk hB (by omega)
  rw [hl1] at hdr hnk ⊢
  obtain ⟨bb, hbb⟩ : ∃ bb, (dueL l k).isSome = bb := ⟨_, rfl⟩
  rw [hbb] at hdr ⊢
  have HNK := Lib.hid hnk
  clear hl1 hkT hbb ht hnk
  go_enter Tryz.func27, Tryz.ntmps27
  go_wp2_with (go_at_call 30; refine (hmp _).mono ?_; rintro e w1 ⟨rfl, hw1⟩; subst w1)
  refine hdr.mono ?_
  rintro e w1 ⟨rfl, v1, h1, O1, hv1⟩
  obtain ⟨A, c, rfl⟩ := own_form h1.own
  have hlen := h1.len
  obtain ⟨n, hn⟩ : ∃ n, l1.length = n := ⟨_, rfl⟩
  rw [hn] at h1 hv1
  have HN := Lib.hid hn
  have H1 := Lib.hid (And.intro h1 (And.intro O1 hv1))
  have hnN : n ≤ N := by omega
  clear h1 hv1 O1 hmp hdr hn hlen
  go_upto_region 7 with fail
  obtain ⟨W2, hW2⟩ : ∃ W2, W2 = w1.alloc (.cells #[.string k, .int .i64 t] 51) := ⟨_, rfl⟩
  have e0 : W2.cell? ⟨w1.heap.size, 0, none⟩ = some (.string k) := by rw [hW2]; exact (eo_cells w1 (t, k)).1
  have e1 : W2.cell? ⟨w1.heap.size, 1, none⟩ = some (.int .i64 t) := by rw [hW2]; exact (eo_cells w1 (t, k)).2
  have b2 : Below w1.heap.size w1 W2 := by rw [hW2]; exact al _ _
  have h2 := H1.out.1.below b2
  go_cut [] (fun wc => Hid (∃ v', P7 w wc B g m v l1 (insL ltS (t, k) l1) N v'))
  case first =>
    try rw [← hW2]
    have hsz2 : W2.heap.size = w1.heap.size + 1 := by rw [hW2]; simp
    clear hW2
    have HSZ := Lib.hid hsz2
    obtain ⟨i, hi⟩ : ∃ i, posL ltS l1 (t, k) = i := ⟨_, rfl⟩
    have hin : i ≤ n := by rw [← hi, ← HN.out]; exact pos_le _ _
    have hins : insL ltS (t, k) l1 = l1.take i ++ (t, k) :: l1.drop i := by
      rw [← hi]
      exact ins_at linS h2.srt (fun hm => HNK.out (List.mem_map_of_mem (f := fun e : En => e.2) hm))
    have hlt := h2.lt
    have hgl := (hlt g (.inl rfl)).2
    have hvl : ∀ q, (Value.slice A n c).ownBlock = some q → q < w1.heap.size := fun q hq => (H1.out.1.lt q (.inr (.inr hq))).2
    have hgl1 := (H1.out.1.lt g (.inl rfl)).2
    have HX : Hid (W2.drew.cell? ⟨w1.heap.size, 0, none⟩ = some (.string k) ∧ W2.drew.cell? ⟨w1.heap.size, 1, none⟩ = some (.int .i64 t) ∧ ¬ Sg g (.slice A n c) w1.heap.size ∧ True) := Lib.hid ⟨e0, e1, fun e => e.elim (fun e => absurd e (by omega)) (fun e => absurd (hvl _ e) (by omega)), trivial⟩
    have HC : Hid (W2.drew.cell? ⟨g, 0, none⟩ = some (.slice A n c)) := Lib.hid h2.cells.1
    have HP : Hid (W2.drew.heap[g]? = some (.cells #[.slice A n c, .map (some m)] 66 (0, 0))) := Lib.hid h2.hp
    have HG : Hid (¬ (Value.slice A n c).ownBlock = some g) := Lib.hid h2.vg
    have own2 : W2.drew.ownsRow B 51 2 (.slice A n c) n (ents l1) := by have := h2.own; unfold OwnE at this; rw [HN.out] at this; exact this
    have HA : Hid (∀ X, Only (fun _ => False) W2.drew X → Calls Tryz.prog 48 #[.pointer (some ⟨g, 0, none⟩), .agg #[.string k, .int .i64 t]] X fun e' w' => e' = .returned (.int .i64 (i : Nat)) ∧ Below X.heap.size X w') := Lib.hid (fun X hX => by
      have := at_calls g n c A l1 (t, k) X (hX.cell h2.cells.1 id) (Rd.of_own (own_only own2 hX (fun _ _ => id))) h2.srt (by omega)
      rw [hi] at this
      exact this)
    have HI : Hid (∀ X vb, Only (fun _ => False) W2.drew X → One X vb (t, k) → W2.drew.heap.size ≤ vb → Calls Tryz.prog 54 #[.slice A n c, .int .i64 i, .slice (some ⟨vb, 0, none⟩) 1 1] X (InsPost B (.slice A n c) (insL ltS (t, k) l1) X)) := Lib.hid (fun X vb hX hV hvb => by
      have ho : OwnE X B (.slice A n c) l1 := by unfold OwnE; rw [HN.out]; exact own_only own2 hX (fun _ _ => id)
      have := insert_calls B n c i vb A l1 (t, k) X ho hV (fun e => by have := hvl _ e; have : W2.heap.size ≤ vb := hvb; omega) (by have := hX.size; have := H1.out.2.1.size; have : W2.heap.size ≤ X.heap.size := hX.size; omega) hin (by omega)
      rw [hins]
      exact this)
    have FIN : Hid (∀ X v7 Z, Only (fun _ => False) W2.drew X → OwnE Z B v7 (insL ltS (t, k) l1) → Only (fun q => (Value.slice A n c).ownBlock = some q) X Z → (v7.ownBlock = (Value.slice A n c).ownBlock ∨ ∃ q, v7.ownBlock = some q ∧ X.heap.size ≤ q) → P7 w (Z.setCell ⟨g, 0, none⟩ v7) B g m v l1 (insL ltS (t, k) l1) N v7) := Lib.hid (fun X v7 Z hX o7 O7 hv7 => by
      have hsX : W2.heap.size ≤ X.heap.size := hX.size
      have hml := (hlt m (.inr (.inl rfl))).2
      have vg7 : v7.ownBlock ≠ some g := by
        rcases hv7 with e | ⟨q, e, hq⟩
        · rw [e]; exact h2.vg
        · rw [e]; intro e'; injection e' with e'; omega
      have vm7 : v7.ownBlock ≠ some m := by
        rcases hv7 with e | ⟨q, e, hq⟩
        · rw [e]; exact h2.vm
        · rw [e]; intro e'; injection e' with e'; omega
      have O8 : Only (fun k => k = g) Z (Z.setCell ⟨g, 0, none⟩ v7) := (Only.refl (fun k => k = g) Z).put (p := ⟨g, 0, none⟩) (.inl rfl) _
      have hp2 : W2.drew.heap[g]? = some (.cells #[.slice A n c, .map (some m)] 66 (0, 0)) := h2.hp
      have hp7 := O7.heap (hX.heap hp2 id) (fun e => h2.vg e)
      obtain ⟨D, hM, hT⟩ := h2.mp
      have hM2 : Mp W2.drew m N D := mp_only hM ((Only.refl (fun _ => False) W2).drew) id
      have hM8 := mp_only (mp_only (mp_only hM2 hX id) O7 (fun e => h2.vm e)) O8 (fun e => h2.gm e.symm)
      have z0 := H1.out.2.1.trans (only_b (S := fun _ => False) b2) (fun _ h => h.elim)
      have z1 : Only (RkS g m v) w X := (z0.drew).trans hX (fun _ h => h.elim)
      have hs1 := H1.out.2.1.size
      have z2 : Only (RkS g m v) w Z := z1.trans O7 (fun q hq => by
        rcases H1.out.2.2 with e | ⟨q', e, hq'⟩
        · exact .inl (.inr (.inr (by rw [← e]; exact hq)))
        · rw [e] at hq; injection hq with hq; exact .inr (by omega))
      refine ⟨put0 hp7, own_only o7 O8 (fun q hq e => vg7 (by rw [hq, e])), ⟨D, hM8, hT⟩, vg7, vm7, z2.trans O8 (fun q hq => .inl (.inl hq)), ?_⟩
      rcases hv7 with e | ⟨q, e, hq⟩
      · rw [e]; exact H1.out.2.2
      · exact .inr ⟨q, e, by have := z1.size; omega⟩)
    have F0 : Only (fun _ => False) W2.drew W2.drew := Only.refl _ _
    clear hsz2 hins hi h2 own2 hlt hgl hvl hgl1 e0 e1 b2
    refine wp_region_held_drew (S := Only (Sg g (.slice A n c)) W2.drew) (by kernel_rfl) (Only.refl _ _) (fun hHeld => ?_)
    refine wpAnyH_take (i := 0) (v := ?_) rfl (by kernel_rfl) (by kernel_rfl) (by kernel_rfl) (fun _ _ _ h => h) (Or.inl ⟨by rfl, ?_⟩) (by assumption) ?_
    rotate_left
    · intro wz hSw
      have hz0 := hSw.cell HX.out.1 HX.out.2.2.1
      have hz1 := hSw.cell HX.out.2.1 HX.out.2.2.1
      (try dsimp only at hSw)
      first
        | (go_simp; done)
        | (go_simp; with_reducible rfl)
    try simp only [Act.put, List.getElem_toArray, List.getElem_cons_zero, List.getElem_cons_succ, List.setIfInBounds_toArray, List.set_cons_zero, List.set_cons_succ]
    refine wpAnyH_take (i := 1) (v := ?_) rfl (by kernel_rfl) (by kernel_rfl) (by kernel_rfl) (fun _ _ _ h => h) (Or.inl ⟨by rfl, ?_⟩) (by assumption) ?_
    rotate_left
    · intro wz hSw
      have hz0 := hSw.cell HX.out.1 HX.out.2.2.1
      have hz1 := hSw.cell HX.out.2.1 HX.out.2.2.1
      (try dsimp only at hSw)
      first
        | (go_simp; done)
        | (go_simp; with_reducible rfl)
    try simp only [Act.put, List.getElem_toArray, List.getElem_cons_zero, List.getElem_cons_succ, List.setIfInBounds_toArray, List.set_cons_zero, List.set_cons_succ]
    refine wpAnyH_take (i := 2) (v := ?_) rfl (by kernel_rfl) (by kernel_rfl) (by kernel_rfl) (fun _ _ _ h => h) (Or.inl ⟨by rfl, ?_⟩) (by assumption) ?_
    rotate_left
    · intro wz hSw
      have hz0 := hSw.cell HX.out.1 HX.out.2.2.1
      have hz1 := hSw.cell HX.out.2.1 HX.out.2.2.1
      (try dsimp only at hSw)
      first
        | (go_simp; done)
        | (go_simp; with_reducible rfl)
    try simp only [Act.put, List.getElem_toArray, List.getElem_cons_zero, List.getElem_cons_succ, List.setIfInBounds_toArray, List.set_cons_zero, List.set_cons_succ]
    refine wpAnyH_take (i := 3) (v := ?_) rfl (by kernel_rfl) (by kernel_rfl) (by kernel_rfl) (fun _ _ _ h => h) (Or.inl ⟨by rfl, ?_⟩) (by assumption) ?_
    rotate_left
    · intro wz hSw
      have hz0 := hSw.cell HX.out.1 HX.out.2.2.1
      have hz1 := hSw.cell HX.out.2.1 HX.out.2.2.1
      (try dsimp only at hSw)
      first
        | (go_simp; done)
        | (go_simp; with_reducible rfl)
    try simp only [Act.put, List.getElem_toArray, List.getElem_cons_zero, List.getElem_cons_succ, List.setIfInBounds_toArray, List.set_cons_zero, List.set_cons_succ]
    refine wpAnyH_take (i := 5) (v := ?_) rfl (by kernel_rfl) (by kernel_rfl) (by kernel_rfl) (fun _ _ _ h => h) (Or.inl ⟨by rfl, ?_⟩) (by assumption) ?_
    rotate_left
    · intro wz hSw
      have hz0 := hSw.cell HX.out.1 HX.out.2.2.1
      have hz1 := hSw.cell HX.out.2.1 HX.out.2.2.1
      (try dsimp only at hSw)
      first
        | (go_simp; done)
        | (go_simp; with_reducible rfl)
    try simp only [Act.put, List.getElem_toArray, List.getElem_cons_zero, List.getElem_cons_succ, List.setIfInBounds_toArray, List.set_cons_zero, List.set_cons_succ]
    refine wpAnyH_take (i := 6) (v := ?_) rfl (by kernel_rfl) (by kernel_rfl) (by kernel_rfl) (fun _ _ _ h => h) (Or.inl ⟨by rfl, ?_⟩) (by assumption) ?_
    rotate_left
    · intro wz hSw
      have hz0 := hSw.cell HX.out.1 HX.out.2.2.1
      have hz1 := hSw.cell HX.out.2.1 HX.out.2.2.1
      (try dsimp only at hSw)
      first
        | (go_simp; done)
        | (go_simp; with_reducible rfl)
    try simp only [Act.put, List.getElem_toArray, List.getElem_cons_zero, List.getElem_cons_succ, List.setIfInBounds_toArray, List.set_cons_zero, List.set_cons_succ]
    refine wpAnyH_take (i := 8) (v := ?_) rfl (by kernel_rfl) (by kernel_rfl) (by kernel_rfl) (fun _ _ _ h => h) (Or.inl ⟨by rfl, ?_⟩) (by assumption) ?_
    rotate_left
    · intro wz hSw
      have hz0 := hSw.cell HX.out.1 HX.out.2.2.1
      have hz1 := hSw.cell HX.out.2.1 HX.out.2.2.1
      (try dsimp only at hSw)
      first
        | (go_simp; done)
        | (go_simp; with_reducible rfl)
    try simp only [Act.put, List.getElem_toArray, List.getElem_cons_zero, List.getElem_cons_succ, List.setIfInBounds_toArray, List.set_cons_zero, List.set_cons_succ]
    refine wpAnyH_ready (rs := [4, 7, 9]) (by kernel_rfl) (by simp) ?_
    refine AllReadyH.cons rfl (fun K hK => ?_) (AllReadyH.cons rfl (fun K hK => ?_) (AllReadyH.cons rfl (fun K hK => ?_) (AllReadyH.nil)))
    · have c1 := F0.cell HC.out id
      have cb1 : W2.drew.cell? ⟨g, 0, none⟩ = some (.slice A n c) := HC.out
      have cc1 : W2.drew.cell? ⟨g, 0, none⟩ = some (.slice A n c) := c1
      go_simp
      refine hK.out _ _ (F0.mono (S' := Sg g (.slice A n c)) (fun _ h => h.elim)) (fun hHeld => ?_)
      clear hK K c1 cb1 cc1
      try simp only [Act.put, List.getElem_toArray, List.getElem_cons_zero, List.getElem_cons_succ, List.setIfInBounds_toArray, List.set_cons_zero, List.set_cons_succ]
      refine wpAnyH_ready (rs := [7, 9]) (by kernel_rfl) (by simp) ?_
      refine AllReadyH.cons rfl (fun K hK => ?_) (AllReadyH.cons rfl (fun K hK => ?_) (AllReadyH.nil))
      · go_simp
        refine (HA.out W2.drew F0).mono ?_
        rintro e' Y2 ⟨rfl, hb2⟩
        have F2 : Only (fun _ => False) W2.drew Y2 := F0.trans (only_b (S := fun _ => False) hb2) (fun _ h => .inl h)
        refine hK.out _ _ (F2.mono (S' := Sg g (.slice A n c)) (fun _ h => h.elim)) (fun hHeld => ?_)
        clear hK K
        try simp only [Act.put, List.getElem_toArray, List.getElem_cons_zero, List.getElem_cons_succ, List.setIfInBounds_toArray, List.set_cons_zero, List.set_cons_succ]
        refine wpAnyH_ready (rs := [9]) (by kernel_rfl) (by simp) ?_
        refine AllReadyH.cons rfl (fun K hK => ?_) (AllReadyH.nil)
        · go_simp
          have F3 : Only (fun _ => False) W2.drew (Y2.alloc (.cells #[Value.string k, .int .i64 t] 51)) := F2.trans (only_b (S := fun _ => False) (al _ _)) (fun _ h => .inl h)
          have V3 : One (Y2.alloc (.cells #[Value.string k, .int .i64 t] 51)) Y2.heap.size (t, k) := ⟨heap_alloc_new Y2 _⟩
          have B3 : W2.drew.heap.size ≤ Y2.heap.size := F2.size
          refine hK.out _ _ (F3.mono (S' := Sg g (.slice A n c)) (fun _ h => h.elim)) (fun hHeld => ?_)
          clear hK K
          try simp only [Act.put, List.getElem_toArray, List.getElem_cons_zero, List.getElem_cons_succ, List.setIfInBounds_toArray, List.set_cons_zero, List.set_cons_succ]
          refine wpAnyH_ready (rs := [10]) (by kernel_rfl) (by simp) ?_
          refine AllReadyH.cons rfl (fun K7 hK7 => ?_) AllReadyH.nil
          go_simp
          refine (HI.out (Y2.alloc (.cells #[Value.string k, .int .i64 t] 51)) Y2.heap.size F3 V3 (by first | assumption | (have := F3.size; omega) | (simp; omega))).mono ?_
          rintro e' Z ⟨v7, rfl, o7, O7, hv7⟩
          have hS7 : Only (Sg g (.slice A n c)) W2.drew Z := (F3.mono (S' := Sg g (.slice A n c)) (fun _ h => h.elim)).trans O7 (fun b hb => .inl (.inr hb))
          refine hK7.out _ _ hS7 (fun hHeld => ?_)
          clear hK7 K7
          try simp only [Act.put, List.getElem_toArray, List.getElem_cons_zero, List.getElem_cons_succ, List.setIfInBounds_toArray, List.set_cons_zero, List.set_cons_succ]
          refine wpAnyH_take (i := 11) (v := ?_) rfl (by kernel_rfl) (by kernel_rfl) (by kernel_rfl) (fun _ _ _ h => h) (Or.inl ⟨by rfl, ?_⟩) (by assumption) ?_
          rotate_left
          · intro wz hSw
            have hz0 := hSw.cell HX.out.1 HX.out.2.2.1
            have hz1 := hSw.cell HX.out.2.1 HX.out.2.2.1
            (try dsimp only at hSw)
            first
              | (go_simp; done)
              | (go_simp; with_reducible rfl)
          try simp only [Act.put, List.getElem_toArray, List.getElem_cons_zero, List.getElem_cons_succ, List.setIfInBounds_toArray, List.set_cons_zero, List.set_cons_succ]
          refine wpAnyH_take (i := 12) (v := ?_) rfl (by kernel_rfl) (by kernel_rfl) (by kernel_rfl) (fun _ _ _ h => h) (Or.inl ⟨by rfl, ?_⟩) (by assumption) ?_
          rotate_left
          · intro wz hSw
            have hz0 := hSw.cell HX.out.1 HX.out.2.2.1
            have hz1 := hSw.cell HX.out.2.1 HX.out.2.2.1
            (try dsimp only at hSw)
            first
              | (go_simp; done)
              | (go_simp; with_reducible rfl)
          try simp only [Act.put, List.getElem_toArray, List.getElem_cons_zero, List.getElem_cons_succ, List.setIfInBounds_toArray, List.set_cons_zero, List.set_cons_succ]
          refine wpAnyH_ready (rs := [13]) (by kernel_rfl) (by simp) ?_
          refine AllReadyH.cons rfl (fun K13 hK13 => ?_) AllReadyH.nil
          have hp7 := O7.heap (F3.heap HP.out id) HG.out
          have g7 : Z.cell? ⟨g, 0, none⟩ = some (.slice A n c) := by unfold World.cell?; simp only [hp7]; rfl
          have f7 : Z.frozen? ⟨g, 0, none⟩ = false := by unfold World.frozen?; simp only [hp7]; rfl
          obtain ⟨A7, c7, rfl⟩ := own_form o7
          go_simp
          refine hK13.out _ _ (hS7.put (p := ⟨g, 0, none⟩) (.inl (show Sg g (.slice A n c) g from Or.inl rfl)) _) (fun hHeld => ?_)
          clear hK13 K13
          try simp only [Act.put, List.getElem_toArray, List.getElem_cons_zero, List.getElem_cons_succ, List.setIfInBounds_toArray, List.set_cons_zero, List.set_cons_succ]
          refine wpAnyH_done (by kernel_rfl) ?_ _
          go_wp2_with fail
          go_meet
          case rel => exact Lib.hid ⟨_, FIN.out _ _ _ F3 o7 O7 hv7⟩
      · go_simp
        have F4 : Only (fun _ => False) W2.drew (W2.drew.alloc (.cells #[Value.string k, .int .i64 t] 51)) := F0.trans (only_b (S := fun _ => False) (al _ _)) (fun _ h => .inl h)
        have V4 : One (W2.drew.alloc (.cells #[Value.string k, .int .i64 t] 51)) W2.drew.heap.size (t, k) := ⟨heap_alloc_new W2.drew _⟩
        have B4 : W2.drew.heap.size ≤ W2.drew.heap.size := F0.size
        refine hK.out _ _ (F4.mono (S' := Sg g (.slice A n c)) (fun _ h => h.elim)) (fun hHeld => ?_)
        clear hK K
        try simp only [Act.put, List.getElem_toArray, List.getElem_cons_zero, List.getElem_cons_succ, List.setIfInBounds_toArray, List.set_cons_zero, List.set_cons_succ]
        refine wpAnyH_ready (rs := [7]) (by kernel_rfl) (by simp) ?_
        refine AllReadyH.cons rfl (fun K hK => ?_) (AllReadyH.nil)
        · go_simp
          refine (HA.out (W2.drew.alloc (.cells #[Value.string k, .int .i64 t] 51)) F4).mono ?_
          rintro e' Y5 ⟨rfl, hb5⟩
          have F5 : Only (fun _ => False) W2.drew Y5 := F4.trans (only_b (S := fun _ => False) hb5) (fun _ h => .inl h)
          have V5 : One Y5 (W2.heap.size) (t, k) := ⟨(only_b (S := fun _ => False) hb5).heap V4.hp id⟩
          refine hK.out _ _ (F5.mono (S' := Sg g (.slice A n c)) (fun _ h => h.elim)) (fun hHeld => ?_)
          clear hK K
          try simp only [Act.put, List.getElem_toArray, List.getElem_cons_zero, List.getElem_cons_succ, List.setIfInBounds_toArray, List.set_cons_zero, List.set_cons_succ]
          refine wpAnyH_ready (rs := [10]) (by kernel_rfl) (by simp) ?_
          refine AllReadyH.cons rfl (fun K7 hK7 => ?_) AllReadyH.nil
          go_simp
          refine (HI.out Y5 W2.heap.size F5 V5 (by first | assumption | (have := F5.size; omega) | (simp; omega))).mono ?_
          rintro e' Z ⟨v7, rfl, o7, O7, hv7⟩
          have hS7 : Only (Sg g (.slice A n c)) W2.drew Z := (F5.mono (S' := Sg g (.slice A n c)) (fun _ h => h.elim)).trans O7 (fun b hb => .inl (.inr hb))
          refine hK7.out _ _ hS7 (fun hHeld => ?_)
          clear hK7 K7
          try simp only [Act.put, List.getElem_toArray, List.getElem_cons_zero, List.getElem_cons_succ, List.setIfInBounds_toArray, List.set_cons_zero, List.set_cons_succ]
          refine wpAnyH_take (i := 11) (v := ?_) rfl (by kernel_rfl) (by kernel_rfl) (by kernel_rfl) (fun _ _ _ h => h) (Or.inl ⟨by rfl, ?_⟩) (by assumption) ?_
          rotate_left
          · intro wz hSw
            have hz0 := hSw.cell HX.out.1 HX.out.2.2.1
            have hz1 := hSw.cell HX.out.2.1 HX.out.2.2.1
            (try dsimp only at hSw)
            first
              | (go_simp; done)
              | (go_simp; with_reducible rfl)
          try simp only [Act.put, List.getElem_toArray, List.getElem_cons_zero, List.getElem_cons_succ, List.setIfInBounds_toArray, List.set_cons_zero, List.set_cons_succ]
          refine wpAnyH_take (i := 12) (v := ?_) rfl (by kernel_rfl) (by kernel_rfl) (by kernel_rfl) (fun _ _ _ h => h) (Or.inl ⟨by rfl, ?_⟩) (by assumption) ?_
          rotate_left
          · intro wz hSw
            have hz0 := hSw.cell HX.out.1 HX.out.2.2.1
            have hz1 := hSw.cell HX.out.2.1 HX.out.2.2.1
            (try dsimp only at hSw)
            first
              | (go_simp; done)
              | (go_simp; with_reducible rfl)
          try simp only [Act.put, List.getElem_toArray, List.getElem_cons_zero, List.getElem_cons_succ, List.setIfInBounds_toArray, List.set_cons_zero, List.set_cons_succ]
          refine wpAnyH_ready (rs := [13]) (by kernel_rfl) (by simp) ?_
          refine AllReadyH.cons rfl (fun K13 hK13 => ?_) AllReadyH.nil
          have hp7 := O7.heap (F5.heap HP.out id) HG.out
          have g7 : Z.cell? ⟨g, 0, none⟩ = some (.slice A n c) := by unfold World.cell?; simp only [hp7]; rfl
          have f7 : Z.frozen? ⟨g, 0, none⟩ = false := by unfold World.frozen?; simp only [hp7]; rfl
          obtain ⟨A7, c7, rfl⟩ := own_form o7
          go_simp
          refine hK13.out _ _ (hS7.put (p := ⟨g, 0, none⟩) (.inl (show Sg g (.slice A n c) g from Or.inl rfl)) _) (fun hHeld => ?_)
          clear hK13 K13
          try simp only [Act.put, List.getElem_toArray, List.getElem_cons_zero, List.getElem_cons_succ, List.setIfInBounds_toArray, List.set_cons_zero, List.set_cons_succ]
          refine wpAnyH_done (by kernel_rfl) ?_ _
          go_wp2_with fail
          go_meet
          case rel => exact Lib.hid ⟨_, FIN.out _ _ _ F5 o7 O7 hv7⟩
    · go_simp
      refine (HA.out W2.drew F0).mono ?_
      rintro e' Y6 ⟨rfl, hb6⟩
      have F6 : Only (fun _ => False) W2.drew Y6 := F0.trans (only_b (S := fun _ => False) hb6) (fun _ h => .inl h)
      refine hK.out _ _ (F6.mono (S' := Sg g (.slice A n c)) (fun _ h => h.elim)) (fun hHeld => ?_)
      clear hK K
      try simp only [Act.put, List.getElem_toArray, List.getElem_cons_zero, List.getElem_cons_succ, List.setIfInBounds_toArray, List.set_cons_zero, List.set_cons_succ]
      refine wpAnyH_ready (rs := [4, 9]) (by kernel_rfl) (by simp) ?_
      refine AllReadyH.cons rfl (fun K hK => ?_) (AllReadyH.cons rfl (fun K hK => ?_) (AllReadyH.nil))
      · have c7 := F6.cell HC.out id
        have cb7 : W2.drew.cell? ⟨g, 0, none⟩ = some (.slice A n c) := HC.out
        have cc7 : Y6.cell? ⟨g, 0, none⟩ = some (.slice A n c) := c7
        go_simp
        refine hK.out _ _ (F6.mono (S' := Sg g (.slice A n c)) (fun _ h => h.elim)) (fun hHeld => ?_)
        clear hK K c7 cb7 cc7
        try simp only [Act.put, List.getElem_toArray, List.getElem_cons_zero, List.getElem_cons_succ, List.setIfInBounds_toArray, List.set_cons_zero, List.set_cons_succ]
        refine wpAnyH_ready (rs := [9]) (by kernel_rfl) (by simp) ?_
        refine AllReadyH.cons rfl (fun K hK => ?_) (AllReadyH.nil)
        · go_simp
          have F8 : Only (fun _ => False) W2.drew (Y6.alloc (.cells #[Value.string k, .int .i64 t] 51)) := F6.trans (only_b (S := fun _ => False) (al _ _)) (fun _ h => .inl h)
          have V8 : One (Y6.alloc (.cells #[Value.string k, .int .i64 t] 51)) Y6.heap.size (t, k) := ⟨heap_alloc_new Y6 _⟩
          have B8 : W2.drew.heap.size ≤ Y6.heap.size := F6.size
          refine hK.out _ _ (F8.mono (S' := Sg g (.slice A n c)) (fun _ h => h.elim)) (fun hHeld => ?_)
          clear hK K
          try simp only [Act.put, List.getElem_toArray, List.getElem_cons_zero, List.getElem_cons_succ, List.setIfInBounds_toArray, List.set_cons_zero, List.set_cons_succ]
          refine wpAnyH_ready (rs := [10]) (by kernel_rfl) (by simp) ?_
          refine AllReadyH.cons rfl (fun K7 hK7 => ?_) AllReadyH.nil
          go_simp
          refine (HI.out (Y6.alloc (.cells #[Value.string k, .int .i64 t] 51)) Y6.heap.size F8 V8 (by first | assumption | (have := F8.size; omega) | (simp; omega))).mono ?_
          rintro e' Z ⟨v7, rfl, o7, O7, hv7⟩
          have hS7 : Only (Sg g (.slice A n c)) W2.drew Z := (F8.mono (S' := Sg g (.slice A n c)) (fun _ h => h.elim)).trans O7 (fun b hb => .inl (.inr hb))
          refine hK7.out _ _ hS7 (fun hHeld => ?_)
          clear hK7 K7
          try simp only [Act.put, List.getElem_toArray, List.getElem_cons_zero, List.getElem_cons_succ, List.setIfInBounds_toArray, List.set_cons_zero, List.set_cons_succ]
          refine wpAnyH_take (i := 11) (v := ?_) rfl (by kernel_rfl) (by kernel_rfl) (by kernel_rfl) (fun _ _ _ h => h) (Or.inl ⟨by rfl, ?_⟩) (by assumption) ?_
          rotate_left
          · intro wz hSw
            have hz0 := hSw.cell HX.out.1 HX.out.2.2.1
            have hz1 := hSw.cell HX.out.2.1 HX.out.2.2.1
            (try dsimp only at hSw)
            first
              | (go_simp; done)
              | (go_simp; with_reducible rfl)
          try simp only [Act.put, List.getElem_toArray, List.getElem_cons_zero, List.getElem_cons_succ, List.setIfInBounds_toArray, List.set_cons_zero, List.set_cons_succ]
          refine wpAnyH_take (i := 12) (v := ?_) rfl (by kernel_rfl) (by kernel_rfl) (by kernel_rfl) (fun _ _ _ h => h) (Or.inl ⟨by rfl, ?_⟩) (by assumption) ?_
          rotate_left
          · intro wz hSw
            have hz0 := hSw.cell HX.out.1 HX.out.2.2.1
            have hz1 := hSw.cell HX.out.2.1 HX.out.2.2.1
            (try dsimp only at hSw)
            first
              | (go_simp; done)
              | (go_simp; with_reducible rfl)
          try simp only [Act.put, List.getElem_toArray, List.getElem_cons_zero, List.getElem_cons_succ, List.setIfInBounds_toArray, List.set_cons_zero, List.set_cons_succ]
          refine wpAnyH_ready (rs := [13]) (by kernel_rfl) (by simp) ?_
          refine AllReadyH.cons rfl (fun K13 hK13 => ?_) AllReadyH.nil
          have hp7 := O7.heap (F8.heap HP.out id) HG.out
          have g7 : Z.cell? ⟨g, 0, none⟩ = some (.slice A n c) := by unfold World.cell?; simp only [hp7]; rfl
          have f7 : Z.frozen? ⟨g, 0, none⟩ = false := by unfold World.frozen?; simp only [hp7]; rfl
          obtain ⟨A7, c7, rfl⟩ := own_form o7
          go_simp
          refine hK13.out _ _ (hS7.put (p := ⟨g, 0, none⟩) (.inl (show Sg g (.slice A n c) g from Or.inl rfl)) _) (fun hHeld => ?_)
          clear hK13 K13
          try simp only [Act.put, List.getElem_toArray, List.getElem_cons_zero, List.getElem_cons_succ, List.setIfInBounds_toArray, List.set_cons_zero, List.set_cons_succ]
          refine wpAnyH_done (by kernel_rfl) ?_ _
          go_wp2_with fail
          go_meet
          case rel => exact Lib.hid ⟨_, FIN.out _ _ _ F8 o7 O7 hv7⟩
      · go_simp
        have F9 : Only (fun _ => False) W2.drew (Y6.alloc (.cells #[Value.string k, .int .i64 t] 51)) := F6.trans (only_b (S := fun _ => False) (al _ _)) (fun _ h => .inl h)
        have V9 : One (Y6.alloc (.cells #[Value.string k, .int .i64 t] 51)) Y6.heap.size (t, k) := ⟨heap_alloc_new Y6 _⟩
        have B9 : W2.drew.heap.size ≤ Y6.heap.size := F6.size
        refine hK.out _ _ (F9.mono (S' := Sg g (.slice A n c)) (fun _ h => h.elim)) (fun hHeld => ?_)
        clear hK K
        try simp only [Act.put, List.getElem_toArray, List.getElem_cons_zero, List.getElem_cons_succ, List.setIfInBounds_toArray, List.set_cons_zero, List.set_cons_succ]
        refine wpAnyH_ready (rs := [4]) (by kernel_rfl) (by simp) ?_
        refine AllReadyH.cons rfl (fun K hK => ?_) (AllReadyH.nil)
        · have c10 := F9.cell HC.out id
          have cb10 : W2.drew.cell? ⟨g, 0, none⟩ = some (.slice A n c) := HC.out
          have cc10 : (Y6.alloc (.cells #[Value.string k, .int .i64 t] 51)).cell? ⟨g, 0, none⟩ = some (.slice A n c) := c10
          go_simp
          refine hK.out _ _ (F9.mono (S' := Sg g (.slice A n c)) (fun _ h => h.elim)) (fun hHeld => ?_)
          clear hK K c10 cb10 cc10
          try simp only [Act.put, List.getElem_toArray, List.getElem_cons_zero, List.getElem_cons_succ, List.setIfInBounds_toArray, List.set_cons_zero, List.set_cons_succ]
          refine wpAnyH_ready (rs := [10]) (by kernel_rfl) (by simp) ?_
          refine AllReadyH.cons rfl (fun K7 hK7 => ?_) AllReadyH.nil
          go_simp
          refine (HI.out (Y6.alloc (.cells #[Value.string k, .int .i64 t] 51)) Y6.heap.size F9 V9 (by first | assumption | (have := F9.size; omega) | (simp; omega))).mono ?_
          rintro e' Z ⟨v7, rfl, o7, O7, hv7⟩
          have hS7 : Only (Sg g (.slice A n c)) W2.drew Z := (F9.mono (S' := Sg g (.slice A n c)) (fun _ h => h.elim)).trans O7 (fun b hb => .inl (.inr hb))
          refine hK7.out _ _ hS7 (fun hHeld => ?_)
          clear hK7 K7
          try simp only [Act.put, List.getElem_toArray, List.getElem_cons_zero, List.getElem_cons_succ, List.setIfInBounds_toArray, List.set_cons_zero, List.set_cons_succ]
          refine wpAnyH_take (i := 11) (v := ?_) rfl (by kernel_rfl) (by kernel_rfl) (by kernel_rfl) (fun _ _ _ h => h) (Or.inl ⟨by rfl, ?_⟩) (by assumption) ?_
          rotate_left
          · intro wz hSw
            have hz0 := hSw.cell HX.out.1 HX.out.2.2.1
            have hz1 := hSw.cell HX.out.2.1 HX.out.2.2.1
            (try dsimp only at hSw)
            first
              | (go_simp; done)
              | (go_simp; with_reducible rfl)
          try simp only [Act.put, List.getElem_toArray, List.getElem_cons_zero, List.getElem_cons_succ, List.setIfInBounds_toArray, List.set_cons_zero, List.set_cons_succ]
          refine wpAnyH_take (i := 12) (v := ?_) rfl (by kernel_rfl) (by kernel_rfl) (by kernel_rfl) (fun _ _ _ h => h) (Or.inl ⟨by rfl, ?_⟩) (by assumption) ?_
          rotate_left
          · intro wz hSw
            have hz0 := hSw.cell HX.out.1 HX.out.2.2.1
            have hz1 := hSw.cell HX.out.2.1 HX.out.2.2.1
            (try dsimp only at hSw)
            first
              | (go_simp; done)
              | (go_simp; with_reducible rfl)
          try simp only [Act.put, List.getElem_toArray, List.getElem_cons_zero, List.getElem_cons_succ, List.setIfInBounds_toArray, List.set_cons_zero, List.set_cons_succ]
          refine wpAnyH_ready (rs := [13]) (by kernel_rfl) (by simp) ?_
          refine AllReadyH.cons rfl (fun K13 hK13 => ?_) AllReadyH.nil
          have hp7 := O7.heap (F9.heap HP.out id) HG.out
          have g7 : Z.cell? ⟨g, 0, none⟩ = some (.slice A n c) := by unfold World.cell?; simp only [hp7]; rfl
          have f7 : Z.frozen? ⟨g, 0, none⟩ = false := by unfold World.frozen?; simp only [hp7]; rfl
          obtain ⟨A7, c7, rfl⟩ := own_form o7
          go_simp
          refine hK13.out _ _ (hS7.put (p := ⟨g, 0, none⟩) (.inl (show Sg g (.slice A n c) g from Or.inl rfl)) _) (fun hHeld => ?_)
          clear hK13 K13
          try simp only [Act.put, List.getElem_toArray, List.getElem_cons_zero, List.getElem_cons_succ, List.setIfInBounds_toArray, List.set_cons_zero, List.set_cons_succ]
          refine wpAnyH_done (by kernel_rfl) ?_ _
          go_wp2_with fail
          go_meet
          case rel => exact Lib.hid ⟨_, FIN.out _ _ _ F9 o7 O7 hv7⟩
    · go_simp
      have F11 : Only (fun _ => False) W2.drew (W2.drew.alloc (.cells #[Value.string k, .int .i64 t] 51)) := F0.trans (only_b (S := fun _ => False) (al _ _)) (fun _ h => .inl h)
      have V11 : One (W2.drew.alloc (.cells #[Value.string k, .int .i64 t] 51)) W2.drew.heap.size (t, k) := ⟨heap_alloc_new W2.drew _⟩
      have B11 : W2.drew.heap.size ≤ W2.drew.heap.size := F0.size
      refine hK.out _ _ (F11.mono (S' := Sg g (.slice A n c)) (fun _ h => h.elim)) (fun hHeld => ?_)
      clear hK K
      try simp only [Act.put, List.getElem_toArray, List.getElem_cons_zero, List.getElem_cons_succ, List.setIfInBounds_toArray, List.set_cons_zero, List.set_cons_succ]
      refine wpAnyH_ready (rs := [4, 7]) (by kernel_rfl) (by simp) ?_
      refine AllReadyH.cons rfl (fun K hK => ?_) (AllReadyH.cons rfl (fun K hK => ?_) (AllReadyH.nil))
      · have c12 := F11.cell HC.out id
        have cb12 : W2.drew.cell? ⟨g, 0, none⟩ = some (.slice A n c) := HC.out
        have cc12 : (W2.alloc (.cells #[Value.string k, .int .i64 t] 51)).cell? ⟨g, 0, none⟩ = some (.slice A n c) := c12
        go_simp
        refine hK.out _ _ (F11.mono (S' := Sg g (.slice A n c)) (fun _ h => h.elim)) (fun hHeld => ?_)
        clear hK K c12 cb12 cc12
        try simp only [Act.put, List.getElem_toArray, List.getElem_cons_zero, List.getElem_cons_succ, List.setIfInBounds_toArray, List.set_cons_zero, List.set_cons_succ]
        refine wpAnyH_ready (rs := [7]) (by kernel_rfl) (by simp) ?_
        refine AllReadyH.cons rfl (fun K hK => ?_) (AllReadyH.nil)
        · go_simp
          refine (HA.out (W2.drew.alloc (.cells #[Value.string k, .int .i64 t] 51)) F11).mono ?_
          rintro e' Y13 ⟨rfl, hb13⟩
          have F13 : Only (fun _ => False) W2.drew Y13 := F11.trans (only_b (S := fun _ => False) hb13) (fun _ h => .inl h)
          have V13 : One Y13 (W2.heap.size) (t, k) := ⟨(only_b (S := fun _ => False) hb13).heap V11.hp id⟩
          refine hK.out _ _ (F13.mono (S' := Sg g (.slice A n c)) (fun _ h => h.elim)) (fun hHeld => ?_)
          clear hK K
          try simp only [Act.put, List.getElem_toArray, List.getElem_cons_zero, List.getElem_cons_succ, List.setIfInBounds_toArray, List.set_cons_zero, List.set_cons_succ]
          refine wpAnyH_ready (rs := [10]) (by kernel_rfl) (by simp) ?_
          refine AllReadyH.cons rfl (fun K7 hK7 => ?_) AllReadyH.nil
          go_simp
          refine (HI.out Y13 W2.heap.size F13 V13 (by first | assumption | (have := F13.size; omega) | (simp; omega))).mono ?_
          rintro e' Z ⟨v7, rfl, o7, O7, hv7⟩
          have hS7 : Only (Sg g (.slice A n c)) W2.drew Z := (F13.mono (S' := Sg g (.slice A n c)) (fun _ h => h.elim)).trans O7 (fun b hb => .inl (.inr hb))
          refine hK7.out _ _ hS7 (fun hHeld => ?_)
          clear hK7 K7
          try simp only [Act.put, List.getElem_toArray, List.getElem_cons_zero, List.getElem_cons_succ, List.setIfInBounds_toArray, List.set_cons_zero, List.set_cons_succ]
          refine wpAnyH_take (i := 11) (v := ?_) rfl (by kernel_rfl) (by kernel_rfl) (by kernel_rfl) (fun _ _ _ h => h) (Or.inl ⟨by rfl, ?_⟩) (by assumption) ?_
          rotate_left
          · intro wz hSw
            have hz0 := hSw.cell HX.out.1 HX.out.2.2.1
            have hz1 := hSw.cell HX.out.2.1 HX.out.2.2.1
            (try dsimp only at hSw)
            first
              | (go_simp; done)
              | (go_simp; with_reducible rfl)
          try simp only [Act.put, List.getElem_toArray, List.getElem_cons_zero, List.getElem_cons_succ, List.setIfInBounds_toArray, List.set_cons_zero, List.set_cons_succ]
          refine wpAnyH_take (i := 12) (v := ?_) rfl (by kernel_rfl) (by kernel_rfl) (by kernel_rfl) (fun _ _ _ h => h) (Or.inl ⟨by rfl, ?_⟩) (by assumption) ?_
          rotate_left
          · intro wz hSw
            have hz0 := hSw.cell HX.out.1 HX.out.2.2.1
            have hz1 := hSw.cell HX.out.2.1 HX.out.2.2.1
            (try dsimp only at hSw)
            first
              | (go_simp; done)
              | (go_simp; with_reducible rfl)
          try simp only [Act.put, List.getElem_toArray, List.getElem_cons_zero, List.getElem_cons_succ, List.setIfInBounds_toArray, List.set_cons_zero, List.set_cons_succ]
          refine wpAnyH_ready (rs := [13]) (by kernel_rfl) (by simp) ?_
          refine AllReadyH.cons rfl (fun K13 hK13 => ?_) AllReadyH.nil
          have hp7 := O7.heap (F13.heap HP.out id) HG.out
          have g7 : Z.cell? ⟨g, 0, none⟩ = some (.slice A n c) := by unfold World.cell?; simp only [hp7]; rfl
          have f7 : Z.frozen? ⟨g, 0, none⟩ = false := by unfold World.frozen?; simp only [hp7]; rfl
          obtain ⟨A7, c7, rfl⟩ := own_form o7
          go_simp
          refine hK13.out _ _ (hS7.put (p := ⟨g, 0, none⟩) (.inl (show Sg g (.slice A n c) g from Or.inl rfl)) _) (fun hHeld => ?_)
          clear hK13 K13
          try simp only [Act.put, List.getElem_toArray, List.getElem_cons_zero, List.getElem_cons_succ, List.setIfInBounds_toArray, List.set_cons_zero, List.set_cons_succ]
          refine wpAnyH_done (by kernel_rfl) ?_ _
          go_wp2_with fail
          go_meet
          case rel => exact Lib.hid ⟨_, FIN.out _ _ _ F13 o7 O7 hv7⟩
      · go_simp
        refine (HA.out (W2.drew.alloc (.cells #[Value.string k, .int .i64 t] 51)) F11).mono ?_
        rintro e' Y14 ⟨rfl, hb14⟩
        have F14 : Only (fun _ => False) W2.drew Y14 := F11.trans (only_b (S := fun _ => False) hb14) (fun _ h => .inl h)
        have V14 : One Y14 (W2.heap.size) (t, k) := ⟨(only_b (S := fun _ => False) hb14).heap V11.hp id⟩
        refine hK.out _ _ (F14.mono (S' := Sg g (.slice A n c)) (fun _ h => h.elim)) (fun hHeld => ?_)
        clear hK K
        try simp only [Act.put, List.getElem_toArray, List.getElem_cons_zero, List.getElem_cons_succ, List.setIfInBounds_toArray, List.set_cons_zero, List.set_cons_succ]
        refine wpAnyH_ready (rs := [4]) (by kernel_rfl) (by simp) ?_
        refine AllReadyH.cons rfl (fun K hK => ?_) (AllReadyH.nil)
        · have c15 := F14.cell HC.out id
          have cb15 : W2.drew.cell? ⟨g, 0, none⟩ = some (.slice A n c) := HC.out
          have cc15 : Y14.cell? ⟨g, 0, none⟩ = some (.slice A n c) := c15
          go_simp
          refine hK.out _ _ (F14.mono (S' := Sg g (.slice A n c)) (fun _ h => h.elim)) (fun hHeld => ?_)
          clear hK K c15 cb15 cc15
          try simp only [Act.put, List.getElem_toArray, List.getElem_cons_zero, List.getElem_cons_succ, List.setIfInBounds_toArray, List.set_cons_zero, List.set_cons_succ]
          refine wpAnyH_ready (rs := [10]) (by kernel_rfl) (by simp) ?_
          refine AllReadyH.cons rfl (fun K7 hK7 => ?_) AllReadyH.nil
          go_simp
          refine (HI.out Y14 W2.heap.size F14 V14 (by first | assumption | (have := F14.size; omega) | (simp; omega))).mono ?_
          rintro e' Z ⟨v7, rfl, o7, O7, hv7⟩
          have hS7 : Only (Sg g (.slice A n c)) W2.drew Z := (F14.mono (S' := Sg g (.slice A n c)) (fun _ h => h.elim)).trans O7 (fun b hb => .inl (.inr hb))
          refine hK7.out _ _ hS7 (fun hHeld => ?_)
          clear hK7 K7
          try simp only [Act.put, List.getElem_toArray, List.getElem_cons_zero, List.getElem_cons_succ, List.setIfInBounds_toArray, List.set_cons_zero, List.set_cons_succ]
          refine wpAnyH_take (i := 11) (v := ?_) rfl (by kernel_rfl) (by kernel_rfl) (by kernel_rfl) (fun _ _ _ h => h) (Or.inl ⟨by rfl, ?_⟩) (by assumption) ?_
          rotate_left
          · intro wz hSw
            have hz0 := hSw.cell HX.out.1 HX.out.2.2.1
            have hz1 := hSw.cell HX.out.2.1 HX.out.2.2.1
            (try dsimp only at hSw)
            first
              | (go_simp; done)
              | (go_simp; with_reducible rfl)
          try simp only [Act.put, List.getElem_toArray, List.getElem_cons_zero, List.getElem_cons_succ, List.setIfInBounds_toArray, List.set_cons_zero, List.set_cons_succ]
          refine wpAnyH_take (i := 12) (v := ?_) rfl (by kernel_rfl) (by kernel_rfl) (by kernel_rfl) (fun _ _ _ h => h) (Or.inl ⟨by rfl, ?_⟩) (by assumption) ?_
          rotate_left
          · intro wz hSw
            have hz0 := hSw.cell HX.out.1 HX.out.2.2.1
            have hz1 := hSw.cell HX.out.2.1 HX.out.2.2.1
            (try dsimp only at hSw)
            first
              | (go_simp; done)
              | (go_simp; with_reducible rfl)
          try simp only [Act.put, List.getElem_toArray, List.getElem_cons_zero, List.getElem_cons_succ, List.setIfInBounds_toArray, List.set_cons_zero, List.set_cons_succ]
          refine wpAnyH_ready (rs := [13]) (by kernel_rfl) (by simp) ?_
          refine AllReadyH.cons rfl (fun K13 hK13 => ?_) AllReadyH.nil
          have hp7 := O7.heap (F14.heap HP.out id) HG.out
          have g7 : Z.cell? ⟨g, 0, none⟩ = some (.slice A n c) := by unfold World.cell?; simp only [hp7]; rfl
          have f7 : Z.frozen? ⟨g, 0, none⟩ = false := by unfold World.frozen?; simp only [hp7]; rfl
          obtain ⟨A7, c7, rfl⟩ := own_form o7
          go_simp
          refine hK13.out _ _ (hS7.put (p := ⟨g, 0, none⟩) (.inl (show Sg g (.slice A n c) g from Or.inl rfl)) _) (fun hHeld => ?_)
          clear hK13 K13
          try simp only [Act.put, List.getElem_toArray, List.getElem_cons_zero, List.getElem_cons_succ, List.setIfInBounds_toArray, List.set_cons_zero, List.set_cons_succ]
          refine wpAnyH_done (by kernel_rfl) ?_ _
          go_wp2_with fail
          go_meet
          case rel => exact Lib.hid ⟨_, FIN.out _ _ _ F14 o7 O7 hv7⟩
  case rest =>
    obtain ⟨v', q⟩ := hcut.out
    have hqp := q.hp
    have c1 : wc.cell? ⟨g, 1, none⟩ = some (.map (some m)) := by unfold World.cell?; simp only [hqp]; rfl
    obtain ⟨D, hM, hT⟩ := q.mp
    have hMis := hM.isMap
    have Q := Lib.hid q
    have HM := Lib.hid (And.intro hT hMis)
    clear q hcut hqp h2 b2 hW2 e0 e1 hT hMis
    go_wp2_with (at_mapUpdate; refine wpList_mapUpdate_own _ rfl _ _ _ 64 rfl 9 3 keyed Tryz.underlying64 _ m N D rfl hM (by unfold maxLen; omega) _ _ (klS k) rfl rfl (key_of hk) (.lit (.int .i64 t)) [] (plainElem_int Tryz.underlying3 (wf_of HT.out)) ?_; intro w4 hown4 hturn4)
    have O4 := Only.of_grown hturn4
    have hp4 := O4.heap Q.out.hp (fun e => by injection e with e; exact h.gm e.symm)
    have o4 : OwnE w4 B v' (insL ltS (t, k) l1) := own_only Q.out.own O4 (fun q hq e => by injection e with e; exact Q.out.vm (by rw [hq, e]))
    go_ret2
    have hs1 := H1.out.1.srt
    refine ⟨rfl, v', ⟨hp4, ⟨_, hown4, HM.out.1.put keyS linS HM.out.2 hs1 k t HNK.out⟩, o4, h.gB, h.mB, h.gm, Q.out.vg, Q.out.vm, hs1.ins linS (e := (t, k)) HNK.out, ?_, ?_, ?_⟩, ?_, Q.out.vv⟩
    · rw [ins_len, HN.out]; omega
    · intro e he
      rcases ins_mem.1 he with rfl | he
      · exact HT.out
      · exact H1.out.1.rng e he
    · intro e he
      rcases ins_mem.1 he with rfl | he
      · exact hk
      · exact H1.out.1.kok e he
    · exact Q.out.only.trans (O4.mono (S' := fun b => b = m) (fun b hb => by injection hb with hb; exact hb.symm)) (fun b hb => .inl (.inr (.inl hb)))
end Go.Proofs.YtakhcfemakapbaaGreatDoor.RkN
