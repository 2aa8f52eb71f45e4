/-
  What 'do' hands back and leaves, by the kind of deed (PopBack, PushFront). Conditions: as stated.
-/
import Derived.Test.YtgbgdgncdanblaaDrB
set_option maxRecDepth 100000
set_option linter.unusedSimpArgs false
set_option linter.unusedVariables false
namespace Go.Proofs.Ytgbgdgncdanblaa.DrD
open Go.RowKit Go.Proofs.Ytgbgdgncdanblaa.Mem Go.Proofs.Ytgbgdgncdanblaa.DqA Go.Proofs.Ytgbgdgncdanblaa.DqB Go.Proofs.Ytgbgdgncdanblaa.DqC Go.Proofs.Ytgbgdgncdanblaa.DqD Go.Proofs.Ytgbgdgncdanblaa.DqE Go.Proofs.Ytgbgdgncdanblaa.DqF Go.Proofs.Ytgbgdgncdanblaa.DqG Go.Proofs.Ytgbgdgncdanblaa.DqH Go.Proofs.Ytgbgdgncdanblaa.DqI Go.Proofs.Ytgbgdgncdanblaa.DqJ Go.Proofs.Ytgbgdgncdanblaa.DqO Go.Proofs.Ytgbgdgncdanblaa.DqP Go.Proofs.Ytgbgdgncdanblaa.DqQ Go.Proofs.Ytgbgdgncdanblaa.DqU Go.Proofs.Ytgbgdgncdanblaa.DqV Go.Proofs.Ytgbgdgncdanblaa.DqW Go.Proofs.Ytgbgdgncdanblaa.DqX Go.Proofs.Ytgbgdgncdanblaa.DqY Go.Proofs.Ytgbgdgncdanblaa.DqZ Go.Proofs.Ytgbgdgncdanblaa.DrA Go.Proofs.Ytgbgdgncdanblaa.DrB

set_option maxHeartbeats 4000000 in
theorem doPopBack_calls (B g N : Nat) (v : Value) (l : List Int) (A : Option Addr) (n c : Nat) (AL : Option Addr) (nL cL : Nat) (L : List Int) (a b d : Int) (bf : Bool) (w : World)
    (hd : Dqn w B g v l N) (hr : RdI w A n c l) (ha : Apart g v A l) (hL : RdI w AL nL cL L) (haL : Apart g v AL L) (hB : B ≤ w.heap.size) (hN : N + nL ≤ 8388608) (hn : n ≤ 1048576) (hnL : nL ≤ 1048576)
    (a1 : -9223372036854775808 ≤ a) (a2 : a ≤ 9223372036854775807) (b1 : -9223372036854775808 ≤ b) (b2 : b ≤ 9223372036854775807) :
    Calls Try.prog 46 #[.pointer (some ⟨g, 0, none⟩), .slice A n c, .agg #[.int .i64 3, .slice AL nL cL, .int .i64 a, .int .i64 b, .int .i64 d, .bool bf]] w (DoPost B g N v l A nL w) := by
  obtain rfl := rdi_len hr
  obtain rfl := rdi_len hL
  have hbel0 : Below w.heap.size w (w.alloc (.cells #[.int .i64 3, .slice AL L.length cL, .int .i64 a, .int .i64 b, .int .i64 d, .bool bf] 47)) := (Below.refl _ w).alloc (Nat.le_refl _) _
  have hbox0 : Box (w.alloc (.cells #[.int .i64 3, .slice AL L.length cL, .int .i64 a, .int .i64 b, .int .i64 d, .bool bf] 47)) w.heap.size 3 AL L.length cL a b d bf := heap_alloc_new w _
  have hL0 := hL.below hbel0
  have hbs := hbox0.lt
  go_enter Try.func46, Try.ntmps46
  go_wp2_with (first
    | (at_builtin; refine wpList_app rfl (.const (.slice none 0 0)) (.tmp 26) elI rfl (w.heap.size + 1) _ 0 [] rfl (World.ownsRow_nil _ _ _ _) AL L.length cL (ints L) rfl hL0 (ints_one L) (by unfold maxLen; omega) (by omega) (by simp) ?_; intro v1 w1 o1 bb1 f1; have O1 : OwnI w1 (w.heap.size + 1) v1 L := (by simpa [OwnI] using o1); obtain ⟨A1, c1, rfl⟩ := own_form O1; have hbox1 := hbox0.only bb1 (by intro h; cases h); have B1 : Below w.heap.size w w1 := bb1.after hbel0 (Nat.le_refl _) (fun k h => by cases h); have hs1 := hbox1.lt; clear o1 f1)
    | (at_builtin; refine wpList_app1 rfl (.tmp 27) (.tmp 28) elI rfl (w.heap.size + 1) _ L.length (ints L) rfl O1 (.int .i64 77) rfl rfl (by unfold maxLen; omega) (by omega) (by omega) ?_; intro v2 w2 o2 bb2 f2; have O2 := own_snoc o2; obtain ⟨A2, c2, rfl⟩ := own_form o2; have hcp : (L.length : Int) + 1 ≤ (c2 : Int) := (by have := (Rd.of_own o2).cap; omega); have hcp2 : (L.length : Int) ≤ (c2 : Int) := (by omega); have hbox2 := hbox1.only bb2 (fun h => by have := (O1.lt _ h).1; omega); have B2 : Below w.heap.size w w2 := bb2.after B1 (Nat.le_refl _) (fun k h => by have := (O1.lt k h).1; omega); obtain ⟨x0, x1, x2, x3, x4, x5⟩ := box_cells hbox2; clear o2 f2 bb1 bb2 O1 hbox1 B1))
  have D2 := hd.below B2
  have R2 := hr.below B2
  have RL2 := hL.below B2
  have BB : Below B w w2 := B2.mono hB
  have hg2 := D2.lt
  have ho2 := D2.olt
  have hge := D2.ge
  have hlN := hd.len
  have hgw := hd.lt
  have hd2 := B2
  have kk2 : Only (fun k => k = g ∨ v.ownBlock = some k) w w2 := only_b (Only.refl _ w) hd2
  have sz2 := hd2.size
  have hod := fun k h => (hd.olt k h).2
  have hbxS : ¬ (w.heap.size = g ∨ v.ownBlock = some w.heap.size) := fun h => h.elim (fun h => by have := hd.lt; omega) (fun h => by have := (hd.olt _ h).2; omega)
  have Hr := Lib.hid hr
  have HLr := Lib.hid hL
  clear hbel0 hbox0 hL0 hbs hs1 hd hr hL
  clear hcp hcp2 O2 hbox2 x0 x1 x3 x4 x5
  obtain ⟨hl1, hl2⟩ := pop_back_l l (popN l.length a)
  obtain ⟨T, hT⟩ : ∃ T, T = l.reverse.take (popN l.length a) := ⟨_, rfl⟩
  obtain ⟨U, hU⟩ : ∃ U, U = l.reverse.drop (popN l.length a) := ⟨_, rfl⟩
  obtain ⟨V, hV⟩ : ∃ V, V = U.reverse := ⟨_, rfl⟩
  have hUl : U.length ≤ l.length := by rw [hU, List.length_drop, List.length_reverse]; omega
  have hVl : V.length = U.length := by rw [hV, List.length_reverse]
  rw [← hT] at hl1
  rw [← hU, ← hV] at hl2
  have HT := Lib.hid hT
  have HU := Lib.hid hU
  have HV := Lib.hid hV
  have H1 := Lib.hid hl1
  have H2 := Lib.hid hl2
  have HVl := Lib.hid hVl
  clear hT hU hV hl1 hl2 hVl
  go_wp2_with fail
  go_region_held3 (fun w' => w'.cell? ⟨w.heap.size, 2, none⟩ = some (.int .i64 a)) (first | exact x2 | exact box_cells_below (by assumption) (by assumption))
    (first
      | (go_at_call 14; refine (turned_calls A _ c l _ (rd_drew2 R2) (by omega)).mono ?_; rintro e w3 ⟨s3, rfl, O3, b3⟩; obtain ⟨A3, d3, rfl⟩ := own_form O3; have R3 := Rd.of_own O3; rw [List.length_reverse] at R3)
      | (go_at_call 32; refine (pop_calls A3 _ d3 l.reverse a _ R3 hn).mono ?_; rintro e w4 ⟨s1, s2, rfl, O1, O4, b4⟩; rw [List.length_reverse, ← HT.out] at O1; rw [List.length_reverse, ← HU.out] at O4; obtain ⟨A1, d1, rfl⟩ := own_form O1; obtain ⟨A4, d4, rfl⟩ := own_form O4))
  have b24 : Below w2.heap.size w2 w4 := below_new (below_new (w1 := w2.drew) ((Below.refl _ w2).drew) b3) b4
  have D4 := D2.below b24
  have B4 := below_add BB hB b24
  have C4 := box_cells_below x2 b24
  have l1 := O1.lt
  have l4 := O4.lt
  have hsz3 : w2.heap.size ≤ w3.heap.size := b3.size
  have hsz4 := b4.size
  clear b3 b4 x2 O3 R3
  have hS : ∀ k, k = g ∨ v.ownBlock = some k → B ≤ k ∧ k < w2.heap.size := fun k h => h.elim (fun h => by subst h; exact ⟨hge, hg2⟩) (fun h => ho2 k h)
  have hO1 : ∀ w', Only (fun k => k = g ∨ v.ownBlock = some k) w4 w' → OwnI w' w3.heap.size (.slice A1 T.length d1) T := fun w' k4 => own_only O1 k4 (fun k h e => by have := l1 k h; have := hS k e; omega)
  have hO4 : ∀ w', Only (fun k => k = g ∨ v.ownBlock = some k) w4 w' → OwnI w' w3.heap.size (.slice A4 U.length d4) U := fun w' k4 => own_only O4 k4 (fun k h e => by have := l4 k h; have := hS k e; omega)
  have k0 : Only (fun k => k = g ∨ v.ownBlock = some k) w4 w4.drew := (Only.refl _ w4).drew
  go_wp2_with fail
  go_region_held3 (fun w' => w'.cell? ⟨w.heap.size, 2, none⟩ = some (.int .i64 a)) (first | exact C4 | exact box_cells_below (by assumption) bT | exact box_cells_below (by assumption) (below_drawn (Below.refl _ _) _) | exact kP.cell (by assumption) hbxS)
    (first
      | (go_at_call 14; refine (turned_calls A4 _ d4 U _ (by first | exact Rd.of_own (hO4 _ k0) | exact Rd.of_own (hO4 _ kP4)) (by omega)).mono ?_; rintro e wT ⟨sT, rfl, OT, bT⟩; rw [← HV.out] at OT; obtain ⟨AT, dT, rfl⟩ := own_form OT; have kT : Only (fun k => k = g ∨ v.ownBlock = some k) w4 wT := (by first | exact only_b k0 bT | exact only_b kP4 bT))
      | (go_at_call 25; refine (popBack_calls B g N v l a _ (by first | exact D4.below ((Below.refl _ _).drew) | exact D4.below (below_new (w1 := w4.drew) ((Below.refl _ w4).drew) bT)) (by omega) a1 a2).mono ?_; rintro e wP ⟨p, rfl, OP, vP, DP, kP, fP⟩; rw [← H1.out] at OP; rw [← H2.out] at DP; obtain ⟨AP, dP, rfl⟩ := own_form OP; have kP4 : Only (fun k => k = g ∨ v.ownBlock = some k) w4 wP := (by first | exact k0.trans kP (fun k hk => .inl hk) | exact kT.trans kP (fun k hk => .inl hk)))
      | (go_at_call 13; refine (same_calls _ _ _ _ _ _ T T _ (by first | exact Rd.of_own OP | exact Rd.of_own (own_keep OP bT)) (by first | exact Rd.of_own (hO1 _ kP4) | exact Rd.of_own (hO1 _ kT))).mono ?_; rintro e wS ⟨rfl, nS, rfl⟩))
  · go_wp2_with fail
    go_ret2
    have hVl := HVl.out
    have lT := OT.lt
    have hs4 : w4.drew.heap.size = w4.heap.size := rfl
    refine ⟨AT, V.length, dT, V, vP, N, rfl, (Rd.of_own (own_only OT kP (fun k h e => by have := (lT k h).1; have := hS k e; omega))).drawn nS, DP.drawn nS, fun hl ad e => ?_, by omega, by omega, ((only_b kk2 b24).trans kP4 (fun k h => .inl h)).drawn nS, own_turn fP (by have := bT.size; omega), new_A OT (by omega)⟩
    have h3 := lT ad.block (by rw [e]; rfl)
    refine ⟨by omega, fun h => ?_⟩
    rcases fP with fP | ⟨k', fP, hk'⟩
    · have := (ho2 _ (fP ▸ h)).2; omega
    · rw [fP] at h; injection h with h; omega

set_option maxHeartbeats 4000000 in
theorem doPushFront_calls (B g N : Nat) (v : Value) (l : List Int) (A : Option Addr) (n c : Nat) (AL : Option Addr) (nL cL : Nat) (L : List Int) (a b d : Int) (bf : Bool) (w : World)
    (hd : Dqn w B g v l N) (hr : RdI w A n c l) (ha : Apart g v A l) (hL : RdI w AL nL cL L) (haL : Apart g v AL L) (hB : B ≤ w.heap.size) (hN : N + nL ≤ 8388608) (hn : n ≤ 1048576) (hnL : nL ≤ 1048576)
    (a1 : -9223372036854775808 ≤ a) (a2 : a ≤ 9223372036854775807) (b1 : -9223372036854775808 ≤ b) (b2 : b ≤ 9223372036854775807) :
    Calls Try.prog 46 #[.pointer (some ⟨g, 0, none⟩), .slice A n c, .agg #[.int .i64 0, .slice AL nL cL, .int .i64 a, .int .i64 b, .int .i64 d, .bool bf]] w (DoPost B g N v l A nL w) := by
  obtain rfl := rdi_len hr
  obtain rfl := rdi_len hL
  have hbel0 : Below w.heap.size w (w.alloc (.cells #[.int .i64 0, .slice AL L.length cL, .int .i64 a, .int .i64 b, .int .i64 d, .bool bf] 47)) := (Below.refl _ w).alloc (Nat.le_refl _) _
  have hbox0 : Box (w.alloc (.cells #[.int .i64 0, .slice AL L.length cL, .int .i64 a, .int .i64 b, .int .i64 d, .bool bf] 47)) w.heap.size 0 AL L.length cL a b d bf := heap_alloc_new w _
  have hL0 := hL.below hbel0
  have hbs := hbox0.lt
  go_enter Try.func46, Try.ntmps46
  go_wp2_with (first
    | (at_builtin; refine wpList_app rfl (.const (.slice none 0 0)) (.tmp 26) elI rfl (w.heap.size + 1) _ 0 [] rfl (World.ownsRow_nil _ _ _ _) AL L.length cL (ints L) rfl hL0 (ints_one L) (by unfold maxLen; omega) (by omega) (by simp) ?_; intro v1 w1 o1 bb1 f1; have O1 : OwnI w1 (w.heap.size + 1) v1 L := (by simpa [OwnI] using o1); obtain ⟨A1, c1, rfl⟩ := own_form O1; have hbox1 := hbox0.only bb1 (by intro h; cases h); have B1 : Below w.heap.size w w1 := bb1.after hbel0 (Nat.le_refl _) (fun k h => by cases h); have hs1 := hbox1.lt; clear o1 f1)
    | (at_builtin; refine wpList_app1 rfl (.tmp 27) (.tmp 28) elI rfl (w.heap.size + 1) _ L.length (ints L) rfl O1 (.int .i64 77) rfl rfl (by unfold maxLen; omega) (by omega) (by omega) ?_; intro v2 w2 o2 bb2 f2; have O2 := own_snoc o2; obtain ⟨A2, c2, rfl⟩ := own_form o2; have hcp : (L.length : Int) + 1 ≤ (c2 : Int) := (by have := (Rd.of_own o2).cap; omega); have hcp2 : (L.length : Int) ≤ (c2 : Int) := (by omega); have hbox2 := hbox1.only bb2 (fun h => by have := (O1.lt _ h).1; omega); have B2 : Below w.heap.size w w2 := bb2.after B1 (Nat.le_refl _) (fun k h => by have := (O1.lt k h).1; omega); obtain ⟨x0, x1, x2, x3, x4, x5⟩ := box_cells hbox2; clear o2 f2 bb1 bb2 O1 hbox1 B1))
  have D2 := hd.below B2
  have R2 := hr.below B2
  have RL2 := hL.below B2
  have BB : Below B w w2 := B2.mono hB
  have hg2 := D2.lt
  have ho2 := D2.olt
  have hge := D2.ge
  have hlN := hd.len
  have hgw := hd.lt
  have hd2 := B2
  have kk2 : Only (fun k => k = g ∨ v.ownBlock = some k) w w2 := only_b (Only.refl _ w) hd2
  have sz2 := hd2.size
  have hod := fun k h => (hd.olt k h).2
  have hbxS : ¬ (w.heap.size = g ∨ v.ownBlock = some w.heap.size) := fun h => h.elim (fun h => by have := hd.lt; omega) (fun h => by have := (hd.olt _ h).2; omega)
  have Hr := Lib.hid hr
  have HLr := Lib.hid hL
  clear hbel0 hbox0 hL0 hbs hs1 hd hr hL
  obtain ⟨p2, rfl, hb2, hb2', g77, RG⟩ := given_form O2
  obtain ⟨LG, hLG⟩ : ∃ LG, LG = L.length + 1 := ⟨_, rfl⟩
  rw [← hLG]
  have hix : (L.length : Int) < (LG : Int) := by omega
  clear hLG
  refine (pushFront_calls B g N (max N (L.length + l.length + l.length)) v l _ _ c2 L w2 D2 RG (by omega) (by omega) (by omega) (Nat.le_trans hB hd2.size) (fun _ ad e => by injection e with e; subst e; exact ⟨by omega, fun h => by have h3 := hod _ h; omega⟩)).mono ?_
  rintro e w3 ⟨rfl, v3, D3, k3, f3⟩
  have hb2S : ¬ (p2.block = g ∨ v.ownBlock = some p2.block) := fun h => h.elim (fun h => by omega) (fun h => by have := hod _ h; omega)
  have R3 := rd_apart R2 k3 ha
  have RL3 := rd_apart RL2 k3 haL
  have RG3 := RG.only k3 (fun ad e => by injection e with e; subst e; exact hb2S)
  have y1 := k3.cell x1 hbxS
  have y77 := k3.cell g77 (by rw [add_block]; exact hb2S)
  have B3 := k3.after BB hB (fun k h => h.elim (fun h => by subst h; exact hge) (fun h => (ho2 k h).1))
  have hg3 := D3.lt
  have ho3 := D3.olt
  obtain ⟨T, hT⟩ : ∃ T, T = L.reverse ++ l := ⟨_, rfl⟩
  have hTl : T.length = L.length + l.length := by rw [hT]; simp
  have hix0 : (0 : Int) ≤ (L.length : Int) := by omega
  rw [← hT] at D3
  have HT := Lib.hid hT
  have HTl := Lib.hid hTl
  clear hT hTl x0 x1 x2 x3 x4 x5 g77 hbox2 O2
  go_wp2_with fail
  go_region_held3 (fun w' => w'.cell? ⟨w.heap.size, 1, none⟩ = some (.slice AL L.length cL) ∧ w'.cell? (p2.add L.length) = some (.int .i64 77))
    (first | exact ⟨y1, y77⟩ | exact two_below (by assumption) (by assumption) | exact two_below (by assumption) (below_drawn (Below.refl _ _) _))
    (first
      | (go_at_call 30; refine (rPush_calls A AL _ _ c cL l L _ (rd_drew2 R3) (rd_drew2 RL3) (by omega)).mono ?_; rintro e w4 ⟨s4, rfl, O4, b4⟩; rw [← HT.out] at O4; obtain ⟨A4, d4, rfl⟩ := own_form O4)
      | (go_at_call 13; refine (same_eq _ AL _ _ _ cL L _ ((rd_drew2 RG3).below b4) ((rd_drew2 RL3).below b4)).mono ?_; rintro e w5 ⟨rfl, nd5, rfl⟩))
  have b34 : Below w3.heap.size w3 w4 := below_new (w1 := w3.drew) ((Below.refl _ w3).drew) b4
  go_wp2_with fail
  go_ret2
  have hTl := HTl.out
  exact ⟨A4, T.length, d4, T, v3, _, rfl, (Rd.of_own O4).drawn nd5, (D3.below b34).drawn nd5, apart_new O4 hg3 (fun k h => (ho3 k h).2), by omega, by omega, (only_b (kk2.trans k3 (fun k h => .inl h)) b34).drawn nd5, own_turn f3 sz2, new_A O4 (Nat.le_trans sz2 k3.size)⟩

end Go.Proofs.Ytgbgdgncdanblaa.DrD
