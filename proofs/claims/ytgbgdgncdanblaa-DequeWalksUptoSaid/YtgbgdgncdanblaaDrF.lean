/-
  What 'do' hands back and leaves, by the kind of deed (else: asked). Conditions: as stated.
-/
import Derived.Test.YtgbgdgncdanblaaDrB
set_option maxRecDepth 100000
set_option linter.unusedSimpArgs false
set_option linter.unusedVariables false
namespace Go.Proofs.Ytgbgdgncdanblaa.DrF
open Go.RowKit Go.Proofs.Ytgbgdgncdanblaa.Mem Go.Proofs.Ytgbgdgncdanblaa.DqA Go.Proofs.Ytgbgdgncdanblaa.DqB Go.Proofs.Ytgbgdgncdanblaa.DqC Go.Proofs.Ytgbgdgncdanblaa.DqD Go.Proofs.Ytgbgdgncdanblaa.DqE Go.Proofs.Ytgbgdgncdanblaa.DqF Go.Proofs.Ytgbgdgncdanblaa.DqG Go.Proofs.Ytgbgdgncdanblaa.DqH Go.Proofs.Ytgbgdgncdanblaa.DqI Go.Proofs.Ytgbgdgncdanblaa.DqJ Go.Proofs.Ytgbgdgncdanblaa.DqO Go.Proofs.Ytgbgdgncdanblaa.DqP Go.Proofs.Ytgbgdgncdanblaa.DqQ Go.Proofs.Ytgbgdgncdanblaa.DqU Go.Proofs.Ytgbgdgncdanblaa.DqV Go.Proofs.Ytgbgdgncdanblaa.DqW Go.Proofs.Ytgbgdgncdanblaa.DqX Go.Proofs.Ytgbgdgncdanblaa.DqY Go.Proofs.Ytgbgdgncdanblaa.DqZ Go.Proofs.Ytgbgdgncdanblaa.DrA Go.Proofs.Ytgbgdgncdanblaa.DrB

theorem four_below {w w' : World} {q1 q2 q3 q4 : Addr} {u1 u2 u3 u4 : Value} (h : (w.cell? q1 = some u1 ∧ w.cell? q2 = some u2) ∧ (w.cell? q3 = some u3 ∧ w.cell? q4 = some u4)) (hb : Below w.heap.size w w') :
    (w'.cell? q1 = some u1 ∧ w'.cell? q2 = some u2) ∧ (w'.cell? q3 = some u3 ∧ w'.cell? q4 = some u4) := ⟨two_below h.1 hb, two_below h.2 hb⟩

set_option maxHeartbeats 4000000 in
theorem doElse_calls (B g N : Nat) (v : Value) (l : List Int) (A : Option Addr) (n c : Nat) (kind : Int) (AL : Option Addr) (nL cL : Nat) (L : List Int) (a b d : Int) (bf : Bool) (w : World)
    (hd : Dqn w B g v l N) (hr : RdI w A n c l) (ha : Apart g v A l) (hL : RdI w AL nL cL L) (haL : Apart g v AL L) (hB : B ≤ w.heap.size) (hN : N + nL ≤ 8388608) (hn : n ≤ 1048576) (hnL : nL ≤ 1048576)
    (e0 : (kind == 0) = false) (e1 : (kind == 1) = false) (e2 : (kind == 2) = false) (e3 : (kind == 3) = false) (e4 : (kind == 4) = false) (e5 : (kind == 5) = false) (e6 : (kind == 6) = false) (e7 : (kind == 7) = false)
    (a1 : -9223372036854775808 ≤ a) (a2 : a ≤ 9223372036854775807) (b1 : -9223372036854775808 ≤ b) (b2 : b ≤ 9223372036854775807) :
    Calls Try.prog 46 #[.pointer (some ⟨g, 0, none⟩), .slice A n c, .agg #[.int .i64 kind, .slice AL nL cL, .int .i64 a, .int .i64 b, .int .i64 d, .bool bf]] w (DoPost B g N v l A nL w) := by
  obtain rfl := rdi_len hr
  obtain rfl := rdi_len hL
  have hbel0 : Below w.heap.size w (w.alloc (.cells #[.int .i64 kind, .slice AL L.length cL, .int .i64 a, .int .i64 b, .int .i64 d, .bool bf] 47)) := (Below.refl _ w).alloc (Nat.le_refl _) _
  have hbox0 : Box (w.alloc (.cells #[.int .i64 kind, .slice AL L.length cL, .int .i64 a, .int .i64 b, .int .i64 d, .bool bf] 47)) w.heap.size kind AL L.length cL a b d bf := heap_alloc_new w _
  have hL0 := hL.below hbel0
  have hbs := hbox0.lt
  go_enter Try.func46, Try.ntmps46
  go_wp2_with (first
    | (at_builtin; refine wpList_app rfl (.const (.slice none 0 0)) (.tmp 26) elI rfl (w.heap.size + 1) _ 0 [] rfl (World.ownsRow_nil _ _ _ _) AL L.length cL (ints L) rfl hL0 (ints_one L) (by unfold maxLen; omega) (by omega) (by simp) ?_; intro v1 w1 o1 bb1 f1; have O1 : OwnI w1 (w.heap.size + 1) v1 L := (by simpa [OwnI] using o1); obtain ⟨A1, c1, rfl⟩ := own_form O1; have hbox1 := hbox0.only bb1 (by intro h; cases h); have B1 : Below w.heap.size w w1 := bb1.after hbel0 (Nat.le_refl _) (fun k h => by cases h); have hs1 := hbox1.lt; clear o1 f1)
    | (at_builtin; refine wpList_app1 rfl (.tmp 27) (.tmp 28) elI rfl (w.heap.size + 1) _ L.length (ints L) rfl O1 (.int .i64 77) rfl rfl (by unfold maxLen; omega) (by omega) (by omega) ?_; intro v2 w2 o2 bb2 f2; have O2 := own_snoc o2; obtain ⟨A2, c2, rfl⟩ := own_form o2; have hcp : (L.length : Int) + 1 ≤ (c2 : Int) := (by have := (Rd.of_own o2).cap; omega); have hcp2 : (L.length : Int) ≤ (c2 : Int) := (by omega); have hbox2 := hbox1.only bb2 (fun h => by have := (O1.lt _ h).1; omega); have B2 : Below w.heap.size w w2 := bb2.after B1 (Nat.le_refl _) (fun k h => by have := (O1.lt k h).1; omega); obtain ⟨x0, x1, x2, x3, x4, x5⟩ := box_cells hbox2; clear o2 f2 bb1 bb2 O1 hbox1 B1))
  have D2 := hd.below B2
  have R2 := hr.below B2
  have RL2 := hL.below B2
  have BB : Below B w w2 := B2.mono hB
  have hg2 := D2.lt
  have ho2 := D2.olt
  have hge := D2.ge
  have hlN := hd.len
  have hgw := hd.lt
  have hd2 := B2
  have kk2 : Only (fun k => k = g ∨ v.ownBlock = some k) w w2 := only_b (Only.refl _ w) hd2
  have sz2 := hd2.size
  have hod := fun k h => (hd.olt k h).2
  have hbxS : ¬ (w.heap.size = g ∨ v.ownBlock = some w.heap.size) := fun h => h.elim (fun h => by have := hd.lt; omega) (fun h => by have := (hd.olt _ h).2; omega)
  have Hr := Lib.hid hr
  have HLr := Lib.hid hL
  clear hbel0 hbox0 hL0 hbs hs1 hd hr hL
  clear hcp hcp2 O2
  obtain ⟨T, hT⟩ : ∃ T, T = pieceL l a b := ⟨_, rfl⟩
  obtain ⟨U, hU⟩ : ∃ U, U = findL l a b d L.length := ⟨_, rfl⟩
  have HT := Lib.hid hT
  have HU := Lib.hid hU
  clear hT hU
  refine (at_calls B g v l a w2 (D2.dq (by omega)) a1 a2).mono ?_
  rintro e w3 ⟨y1, q1, rfl, hq1, hy1, nd3, rfl⟩
  have D3 := D2.drawn nd3
  have R3 := R2.drawn nd3
  have B3 := below_drawn BB nd3
  have hbox3 := hbox2.below (below_drawn (Below.refl w2.heap.size w2) nd3)
  have kk3 := kk2.drawn nd3
  generalize w2.drewN nd3 = w3 at D3 R3 B3 hbox3 kk3 ⊢
  clear x0 x1 x2 x3 x4 x5
  obtain ⟨x0, x1, x2, x3, x4, x5⟩ := box_cells hbox3
  have HQ1 := Lib.hid hq1
  have HY1 := Lib.hid hy1
  clear hq1 hy1
  go_wp2_with fail
  refine (rAt_calls A _ c l a w3 R3 (by omega) a1 a2).mono ?_
  rintro e w4 ⟨y2, q2, rfl, hq2, hy2, nd4, rfl⟩
  obtain rfl : q1 = q2 := HQ1.out.trans hq2.symm
  obtain rfl : y1 = y2 := HY1.out.trans hy2.symm
  clear hq2 hy2 HQ1 HY1
  have D4 := D3.drawn nd4
  have R4 := R3.drawn nd4
  have B4 := below_drawn B3 nd4
  have hbox4 := hbox3.below (below_drawn (Below.refl w3.heap.size w3) nd4)
  have kk4 := kk3.drawn nd4
  generalize w3.drewN nd4 = w4 at D4 R4 B4 hbox4 kk4 ⊢
  clear x0 x1 x2 x3 x4 x5
  obtain ⟨x0, x1, x2, x3, x4, x5⟩ := box_cells hbox4
  have k4 : Below w4.heap.size w4 w4.drew := (Below.refl _ w4).drew
  clear D2 D3 R2 R3 RL2 BB B3 hbox2 hbox3
  go_wp2_with fail
  go_region_held3 (fun w' => (w'.cell? ⟨w.heap.size, 1, none⟩ = some (.slice AL L.length cL) ∧ w'.cell? ⟨w.heap.size, 2, none⟩ = some (.int .i64 a)) ∧ (w'.cell? ⟨w.heap.size, 3, none⟩ = some (.int .i64 b) ∧ w'.cell? ⟨w.heap.size, 4, none⟩ = some (.int .i64 d)))
    (first | exact ⟨⟨x1, x2⟩, ⟨x3, x4⟩⟩ | exact four_below (by assumption) (by assumption) | exact four_below (by assumption) (below_drawn (Below.refl _ _) _))
    (first
      | (go_at_call 18; refine (slice_calls B g v l a b _ ((D4.below k4).dq (by omega)) a1 a2 b1 b2).mono ?_; rintro e w5 ⟨s5, rfl, O5, b5⟩; rw [← HT.out] at O5; obtain ⟨A5, d5, rfl⟩ := own_form O5; have k5 := below_new k4 b5)
      | (go_at_call 44; refine (rPiece_calls A _ c l a b _ (R4.below k5) (by omega) a1 a2 b1 b2).mono ?_; rintro e w6 ⟨s6, rfl, O6, b6⟩; rw [← HT.out] at O6; obtain ⟨A6, d6, rfl⟩ := own_form O6; have k6 := below_new k5 b6)
      | (go_at_call_of 13 (Value.slice A5 T.length d5); refine (same_eq A5 A6 _ _ d5 d6 T _ (Rd.of_own (own_keep O5 b6)) (Rd.of_own O6)).mono ?_; rintro e w7 ⟨rfl, nd7, hw7⟩; have b7 : Below w6.heap.size w6 w7 := (by rw [hw7]; exact below_drawn (Below.refl _ _) nd7); have k7 := below_new k6 b7; clear hw7)
      | (go_at_call 12; refine (find_calls B g v l a b d L.length _ ((D4.below k7).dq (by omega)) b1 b2).mono ?_; rintro e w8 ⟨s8, rfl, O8, b8⟩; rw [← HU.out] at O8; obtain ⟨A8, d8, rfl⟩ := own_form O8; have k8 := below_new k7 b8)
      | (go_at_call 67; refine (rFind_calls A _ c l a b d L.length _ (R4.below k8) (by omega) b1 b2).mono ?_; rintro e w9 ⟨s9, rfl, O9, b9⟩; rw [← HU.out] at O9; obtain ⟨A9, d9, rfl⟩ := own_form O9; have k9 := below_new k8 b9)
      | (go_at_call_of 13 (Value.slice A8 U.length d8); refine (same_eq A8 A9 _ _ d8 d9 U _ (Rd.of_own (own_keep O8 b9)) (Rd.of_own O9)).mono ?_; rintro e wA ⟨rfl, ndA, hwA⟩; have bA : Below w9.heap.size w9 wA := (by rw [hwA]; exact below_drawn (Below.refl _ _) ndA); have kA := below_new k9 bA; clear hwA))
  go_wp2_with fail
  go_ret2
  exact ⟨A, l.length, c, l, v, N, rfl, R4.below kA, D4.below kA, ha, by omega, by omega, only_b kk4 kA, fun k h => .inl h, fun ad e _ => .inl ⟨rfl, rfl⟩⟩

end Go.Proofs.Ytgbgdgncdanblaa.DrF
