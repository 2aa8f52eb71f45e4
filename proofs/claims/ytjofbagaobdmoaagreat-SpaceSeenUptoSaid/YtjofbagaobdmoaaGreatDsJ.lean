/-
  An Index's Set. Conditions: as stated.
-/
import Derived.Test.YtjofbagaobdmoaaGreatDsI
import Derived.Deep.RegionLaw
import Derived.Sort.AtCall
set_option maxRecDepth 100000
set_option linter.unusedSimpArgs false
set_option linter.unusedVariables false
namespace Go.Proofs.YtjofbagaobdmoaaGreat.DsJ
open Go.RowKit Go.Shelf Go.Proofs.YtjofbagaobdmoaaGreat.Mem Go.Proofs.YtjofbagaobdmoaaGreat.DuA Go.Proofs.YtjofbagaobdmoaaGreat.DuM Go.Proofs.YtjofbagaobdmoaaGreat.DuN Go.Proofs.YtjofbagaobdmoaaGreat.DuB Go.Proofs.YtjofbagaobdmoaaGreat.DsC Go.Proofs.YtjofbagaobdmoaaGreat.DsD Go.Proofs.YtjofbagaobdmoaaGreat.DsE Go.Proofs.YtjofbagaobdmoaaGreat.DsF Go.Proofs.YtjofbagaobdmoaaGreat.DsG Go.Proofs.YtjofbagaobdmoaaGreat.DsH Go.Proofs.YtjofbagaobdmoaaGreat.DsI

def okT (t : Int) : Prop := 0 ≤ t ∧ t ≤ 9007199254740992
instance (t : Int) : Decidable (okT t) := by unfold okT; infer_instance
def setL (l : List (Int × ByteArray)) (k : ByteArray) (t : Int) : List (Int × ByteArray) := if okT t then insL ltS (t, k) (dropL l k) else l
def setE (t : Int) : Int := if okT t then 0 else 70
theorem Turn.more {B g m N N' : Nat} {v : Value} {l : List (Int × ByteArray)} {w w' : World} (h : Turn B g m v l N w w') (hN : N ≤ N') : Turn B g m v l N' w w' := by
  obtain ⟨v', h1, h2⟩ := h
  obtain ⟨D, hM, hT⟩ := h1.mp
  exact ⟨v', { h1 with len := by have := h1.len; omega, mp := ⟨D, hM.mono hN, hT⟩ }, h2⟩

theorem own_lt {w : World} {B : Nat} {v : Value} {l : List (Int × ByteArray)} (h : OwnE w B v l) : ∀ k, v.ownBlock = some k → k < w.heap.size := fun k hk => (h.lt k hk).2
/-- What the search and the placing read. -/
abbrev Sx (w : World) (g eb : Nat) (v : Value) (e : Int × ByteArray) (w' : World) : Prop :=
  Below w.heap.size w w' ∧ w'.cell? ⟨g, 1, none⟩ = some v ∧ w'.cell? ⟨eb, 0, none⟩ = some (.int .i64 e.1) ∧ w'.cell? ⟨eb, 1, none⟩ = some (Value.string e.2)
theorem sx_below {w w' w1 : World} {g eb : Nat} {v : Value} {e : Int × ByteArray} (h : Sx w g eb v e w1) (hb : Below w1.heap.size w1 w') : Sx w g eb v e w' :=
  ⟨h.1.trans (hb.mono h.1.size), cell_b h.2.1 hb, cell_b h.2.2.1 hb, cell_b h.2.2.2 hb⟩
theorem sx_drew {w w1 : World} {g eb : Nat} {v : Value} {e : Int × ByteArray} (h : Sx w g eb v e w1) : Sx w g eb v e w1.drew := sx_below h ((Below.refl _ _).drew)

abbrev S7 (g eb : Nat) (v : Value) (e : Int × ByteArray) (w' : World) : Prop :=
  w'.cell? ⟨g, 1, none⟩ = some v ∧ w'.cell? ⟨eb, 0, none⟩ = some (.int .i64 e.1) ∧ w'.cell? ⟨eb, 1, none⟩ = some (Value.string e.2)

set_option maxHeartbeats 4000000 in
theorem set_calls (B g m : Nat) (v : Value) (l : List (Int × ByteArray)) (N : Nat) (k : ByteArray) (t : Int) (w : World) (h : Ix w B g m v l N) (hk : okk k) (hB : B ≤ w.heap.size) (hN : N ≤ 1099511627775) :
    Calls Tryz.prog 83 #[.pointer (some ⟨g, 0, none⟩), .string k, .int .i64 t] w fun e w' => e = .returned (.int .i64 (setE t)) ∧ Turn B g m v (setL l k t) (N + 1) w w' := by
  unfold setE setL
  by_cases ht : okT t
  rotate_left
  · rw [if_neg ht, if_neg ht]
    have hR := Turn.more (Turn.refl h) (Nat.le_add_right N 1)
    by_cases h0 : t < 0
    · go_enter Tryz.func83, Tryz.ntmps83
      go_wp2_with fail
      go_ret
      exact ⟨rfl, hR⟩
    · have h1 : 9007199254740992 < t := by unfold okT at ht; omega
      go_enter Tryz.func83, Tryz.ntmps83
      go_wp2_with fail
      go_ret
      exact ⟨rfl, hR⟩
  rw [if_pos ht, if_pos ht]
  have ht' := ht
  obtain ⟨t0, t1⟩ := ht
  have hnk : k ∉ (dropL l k).map (·.2) := drop_not_mem l k
  have hkT := Lib.hid hnk
  obtain ⟨l1, hl1⟩ : ∃ l1, dropL l k = l1 := ⟨_, rfl⟩
  have hdr := drop_calls B g m v l N k w h hk hB (by omega)
  have hgm := h.gm
  have hltS := h.lt
  rw [hl1] at hdr hnk ⊢
  clear hl1 hkT
  go_enter Tryz.func83, Tryz.ntmps83
  go_wp2_with fail
  refine hdr.mono ?_
  rintro e w1 ⟨rfl, v1, h1, O1, hv1⟩
  obtain ⟨A, c, rfl⟩ := own_form h1.own
  obtain ⟨D, hM1, hT⟩ := h1.mp
  have hMis := hM1.isMap
  obtain ⟨c10, c11, -⟩ := h1.cells
  have hlen := h1.len
  obtain ⟨n, hn⟩ : ∃ n, l1.length = n := ⟨_, rfl⟩
  have HN := Lib.hid hn
  rw [hn] at c11
  go_wp2_with (at_mapUpdate; refine wpList_mapUpdate_own _ rfl _ _ _ 125 rfl 9 3 keyed Tryz.underlying125 _ m N D rfl hM1 (by unfold maxLen; omega) _ _ (klS k) rfl rfl (key_of hk) (.lit (.int .i64 t)) [] (plainElem_int Tryz.underlying3 (by simp only [Lit.wf, Bool.and_eq_true, decide_eq_true_eq]; exact ⟨(show (-9223372036854775808 : Int) ≤ t by omega), (show t ≤ (9223372036854775807 : Int) by omega)⟩)) ?_; intro w2 hown2 hturn2)
  have O2 := Only.of_grown hturn2
  have hp2 := O2.heap h1.hp (fun e => by injection e with e; exact hgm e.symm)
  have o2 : OwnE w2 B (.slice A n c) l1 := by rw [← HN.out]; exact own_only h1.own O2 (fun k hk e => by injection e with e; exact h1.vm (by rw [hk, e]))
  rw [HN.out] at hp2
  obtain ⟨W3, hW3⟩ : ∃ W3, w2.alloc (.cells #[.int .i64 t, Value.string k] 130) = W3 := ⟨_, rfl⟩
  have b3 : Below w2.heap.size w2 W3 := by rw [← hW3]; exact al _ _
  have x30 : W3.cell? ⟨w2.heap.size, 0, none⟩ = some (.int .i64 t) := by rw [← hW3]; exact (eo_cells w2 (t, k)).1
  have x31 : W3.cell? ⟨w2.heap.size, 1, none⟩ = some (Value.string k) := by rw [← hW3]; exact (eo_cells w2 (t, k)).2
  have hp3 : W3.heap[g]? = some (.cells #[.map (some m), .slice A n c] 128 (0, 0)) := (only_b (S := fun _ => False) b3).heap hp2 id
  have c31 : W3.cell? ⟨g, 1, none⟩ = some (.slice A n c) := by unfold World.cell?; simp only [hp3]; rfl
  have o3 : OwnE W3 B (.slice A n c) l1 := own_only o2 (only_b (S := fun _ => False) b3) (fun _ _ => id)
  have H3 := Lib.hid hW3
  clear hW3 c10 c11 hM1
  rw [show w2.alloc (.cells #[.int .i64 t, .string k] 130) = W3 from H3.out]
  have hsr := fun w' (hb : Below W3.heap.size W3 w') => search_calls A n c l1 (t, k) w' (Rd.below (Rd.of_own (by have := o3; unfold OwnE at this; rwa [HN.out] at this)) hb) h1.srt.ord (by omega)
  have HS : Sx W3 g w2.heap.size (.slice A n c) (t, k) W3 := ⟨Below.refl _ _, c31, x30, x31⟩
  obtain ⟨i, hi⟩ : ∃ i, posL ltS l1 (t, k) = i := ⟨_, rfl⟩
  have hin : i ≤ n := by rw [← hi, ← HN.out]; exact pos_le _ _
  have HI : Hid (insL ltS (t, k) l1 = l1.take i ++ (t, k) :: l1.drop i) := by
    show _ = _
    rw [← hi]
    exact ins_at linS h1.srt (fun hm => hnk (List.mem_map_of_mem (f := fun e : Int × ByteArray => e.2) hm))
  rw [hi] at hsr
  clear hi
  go_region_held3 (fun w' => Sx W3 g w2.heap.size (.slice A n c) (t, k) w')
    (first | exact sx_drew HS | assumption | exact sx_below (by assumption) (by assumption))
    (first
      | (go_at_call 88; refine (hsr _ ((Below.refl _ _).drew)).mono ?_; rintro e w5 ⟨bb, rfl, hb5⟩))
  have HS5 := sx_below (sx_drew HS) hb5
  obtain ⟨b5, c50, x50, x51⟩ := HS5
  have HS5 : Sx w5 g w2.heap.size (.slice A n c) (t, k) w5 := ⟨Below.refl _ _, c50, x50, x51⟩
  clear hb5 HS
  have O5 : Only (fun _ => False) W3 (w5.alloc (eo (t, k))).drew := only_b (b5.trans (((al w5 (eo (t, k))).drew).mono b5.size))
  have o5 : OwnE (w5.alloc (eo (t, k))).drew B (.slice A n c) l1 := own_only o3 O5 (fun _ _ => id)
  have o5' : OwnE w5 B (.slice A n c) l1 := own_only o3 (only_b (S := fun _ => False) b5) (fun _ _ => id)
  have hp5 := O5.heap hp3 id
  have hlt5 := own_lt o5'
  have hBw : B ≤ w5.heap.size := by
    have e1 := O1.size
    have e2 := O2.size
    have e3 := b3.size
    have e4 := b5.size
    omega
  have hins := insert_calls B n c i w5.heap.size A l1 (t, k) (w5.alloc (eo (t, k))).drew o5 ⟨heap_alloc_new w5 _⟩ (fun e => by have := hlt5 _ e; exact Nat.lt_irrefl _ this) (by show B ≤ (w5.alloc _).heap.size; rw [World.size_alloc]; omega) hin (by omega)
  have gv : (.slice A n c : Value).ownBlock ≠ some g := by rw [← HN.out]; exact h1.vg
  have mv : (.slice A n c : Value).ownBlock ≠ some m := by rw [← HN.out]; exact h1.vm
  have ev : (.slice A n c : Value).ownBlock ≠ some w2.heap.size := fun e => Nat.lt_irrefl _ (own_lt o2 _ e)
  have HK5 : S7 g w2.heap.size (.slice A n c) (t, k) (w5.alloc (eo (t, k))).drew := ⟨cell_b c50 ((al _ _).drew), cell_b x50 ((al _ _).drew), cell_b x51 ((al _ _).drew)⟩
  have HK5' : S7 g w2.heap.size (.slice A n c) (t, k) w5.drew := ⟨c50, x50, x51⟩
  have HK5'' : S7 g w2.heap.size (.slice A n c) (t, k) w5 := ⟨c50, x50, x51⟩
  clear c50 x50 x51 HS5
  go_wp2_with fail
  have mixed : Tryz.prog.follows Departure.mixedOrders = true := by kernel_rfl
  have HI' := HI.out
  obtain ⟨L7, hL7⟩ : ∃ L7, l1.take i ++ (t, k) :: l1.drop i = L7 := ⟨_, rfl⟩
  rw [hL7] at hins HI'
  have hM5 : Mp (w5.alloc (eo (t, k))).drew m (N + 1) (D.put (klS k) (.lit (.int .i64 t))) := by
    obtain ⟨es, clock, hb, F, hn, hD⟩ := hown2
    exact ⟨es, clock, O5.heap ((only_b (S := fun _ => False) b3).heap hb id) id, F, hn, hD⟩
  have FIN : Hid (∀ (A7 : Option Addr) (c7 : Nat) (w7 : World), OwnE w7 B (.slice A7 L7.length c7) L7 → Only (fun k => (.slice A n c : Value).ownBlock = some k) (w5.alloc (eo (t, k))).drew w7 →
      ((.slice A7 L7.length c7 : Value).ownBlock = (.slice A n c : Value).ownBlock ∨ ∃ k', (.slice A7 L7.length c7 : Value).ownBlock = some k' ∧ (w5.alloc (eo (t, k))).drew.heap.size ≤ k') →
      Turn B g m v (insL ltS (t, k) l1) (N + 1) w (w7.setCell ⟨g, 1, none⟩ (.slice A7 L7.length c7))) := by
    intro A7 c7 w7 o7 O7 hv7
    have hgl : g < (w5.alloc (eo (t, k))).drew.heap.size := (Array.getElem?_eq_some_iff.1 hp5).1
    have hml : m < (w5.alloc (eo (t, k))).drew.heap.size := hM5.lt
    have gv7 : (.slice A7 L7.length c7 : Value).ownBlock ≠ some g := by
      rcases hv7 with e | ⟨k', e, h'⟩
      · rw [e]; exact gv
      · rw [e]; intro e'; injection e' with e'; omega
    have mv7 : (.slice A7 L7.length c7 : Value).ownBlock ≠ some m := by
      rcases hv7 with e | ⟨k', e, h'⟩
      · rw [e]; exact mv
      · rw [e]; intro e'; injection e' with e'; omega
    have hp7 := O7.heap hp5 (fun e => gv e)
    have O8 : Only (fun k => k = g) w7 (w7.setCell ⟨g, 1, none⟩ (.slice A7 L7.length c7)) := (Only.refl (fun k => k = g) w7).put (p := ⟨g, 1, none⟩) (.inl rfl) _
    have z1 : Only (IxS g m v) w w2 := O1.trans O2 (fun b hb => .inl (.inr (.inl (by injection hb with hb; exact hb.symm))))
    have z2 : Only (IxS g m v) w (w5.alloc (eo (t, k))).drew := (z1.trans (only_b (S := fun _ => False) b3) (fun b hb => hb.elim)).trans O5 (fun b hb => hb.elim)
    have z3 : Only (IxS g m v) w w7 := z2.trans O7 (fun b hb => by
      rw [HN.out] at hv1
      rcases hv1 with e | ⟨k', e, h'⟩
      · exact .inl (.inr (.inr (by rw [← e]; exact hb)))
      · rw [e] at hb; injection hb with hb; exact .inr (by omega))
    have hsl := h1.srt.ins linS (e := (t, k)) hnk
    refine ⟨.slice A7 L7.length c7, ⟨put_cells hp7, ⟨_, ?_, hT.put keyS linS ?_ h1.srt k t hnk⟩, ?_, h.gB, h.mB, hgm, gv7, mv7, hsl, ?_, ?_, ?_⟩, z3.trans O8 (fun b hb => .inl (.inl hb)), ?_⟩
    · obtain ⟨es, clock, hb, F, hn, hD⟩ := hM5
      exact ⟨es, clock, O8.heap (O7.heap hb (fun e => mv e)) (fun e => hgm e.symm), F, hn, hD⟩
    · exact hMis
    · rw [HI']
      exact own_only o7 O8 (fun k hk e => gv7 (by rw [hk, e]))
    · rw [ins_len]; omega
    · intro e he
      rcases ins_mem.1 he with rfl | he
      · exact ht'
      · exact h1.rng e he
    · intro e he
      rcases ins_mem.1 he with rfl | he
      · exact hk
      · exact h1.kok e he
    · rcases hv7 with e | ⟨k', e, h'⟩
      · rw [e]
        rw [HN.out] at hv1
        exact hv1
      · exact .inr ⟨k', e, Nat.le_trans z2.size h'⟩
  obtain ⟨d1, d2, d3⟩ := HK5
  obtain ⟨e1, e2, e3⟩ := HK5'
  go_region_law (first
    | (refine step_enter rfl 91 #[.slice A n c, .int .i64 i, .slice (some ⟨w5.heap.size, 0, none⟩) 1 1] (by simp [go_sem, execOp, resolve, invoke]) ?_; refine hins.mono ?_; rintro e w7 ⟨v7, rfl, o7, O7, hv7⟩; obtain ⟨A7, c7, rfl⟩ := own_form o7; have hp7 := O7.heap hp5 (fun e => gv e); have g7 : w7.cell? ⟨g, 1, none⟩ = some (.slice A n c) := (by unfold World.cell?; simp only [hp7]; rfl); have f7 : w7.frozen? ⟨g, 1, none⟩ = false := (by unfold World.frozen?; simp only [hp7]; rfl); refine ⟨_, rfl, ?_⟩))
  all_goals (
    go_wp2_with fail
    go_ret
    exact ⟨rfl, by have q := FIN.out A7 c7 w7 o7 O7 hv7; first | exact q | (rw [HI'] at q; exact q)⟩)
end Go.Proofs.YtjofbagaobdmoaaGreat.DsJ
