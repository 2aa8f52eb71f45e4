/-
  What 'do' hands back and leaves, by the kind of deed (PopFront, Put, Trim, Remove, Insert). Conditions: as stated.
-/
import Derived.Test.YtgbgdgncdanblaaDrB
set_option maxRecDepth 100000
set_option linter.unusedSimpArgs false
set_option linter.unusedVariables false
namespace Go.Proofs.Ytgbgdgncdanblaa.DrC
open Go.RowKit Go.Proofs.Ytgbgdgncdanblaa.Mem Go.Proofs.Ytgbgdgncdanblaa.DqA Go.Proofs.Ytgbgdgncdanblaa.DqB Go.Proofs.Ytgbgdgncdanblaa.DqC Go.Proofs.Ytgbgdgncdanblaa.DqD Go.Proofs.Ytgbgdgncdanblaa.DqE Go.Proofs.Ytgbgdgncdanblaa.DqF Go.Proofs.Ytgbgdgncdanblaa.DqG Go.Proofs.Ytgbgdgncdanblaa.DqH Go.Proofs.Ytgbgdgncdanblaa.DqI Go.Proofs.Ytgbgdgncdanblaa.DqJ Go.Proofs.Ytgbgdgncdanblaa.DqO Go.Proofs.Ytgbgdgncdanblaa.DqP Go.Proofs.Ytgbgdgncdanblaa.DqQ Go.Proofs.Ytgbgdgncdanblaa.DqU Go.Proofs.Ytgbgdgncdanblaa.DqV Go.Proofs.Ytgbgdgncdanblaa.DqW Go.Proofs.Ytgbgdgncdanblaa.DqX Go.Proofs.Ytgbgdgncdanblaa.DqY Go.Proofs.Ytgbgdgncdanblaa.DqZ Go.Proofs.Ytgbgdgncdanblaa.DrA Go.Proofs.Ytgbgdgncdanblaa.DrB

set_option maxHeartbeats 4000000 in
theorem doPopFront_calls (B g N : Nat) (v : Value) (l : List Int) (A : Option Addr) (n c : Nat) (AL : Option Addr) (nL cL : Nat) (L : List Int) (a b d : Int) (bf : Bool) (w : World)
    (hd : Dqn w B g v l N) (hr : RdI w A n c l) (ha : Apart g v A l) (hL : RdI w AL nL cL L) (haL : Apart g v AL L) (hB : B ≤ w.heap.size) (hN : N + nL ≤ 8388608) (hn : n ≤ 1048576) (hnL : nL ≤ 1048576)
    (a1 : -9223372036854775808 ≤ a) (a2 : a ≤ 9223372036854775807) (b1 : -9223372036854775808 ≤ b) (b2 : b ≤ 9223372036854775807) :
    Calls Try.prog 46 #[.pointer (some ⟨g, 0, none⟩), .slice A n c, .agg #[.int .i64 2, .slice AL nL cL, .int .i64 a, .int .i64 b, .int .i64 d, .bool bf]] w (DoPost B g N v l A nL w) := by
  obtain rfl := rdi_len hr
  obtain rfl := rdi_len hL
  have hbel0 : Below w.heap.size w (w.alloc (.cells #[.int .i64 2, .slice AL L.length cL, .int .i64 a, .int .i64 b, .int .i64 d, .bool bf] 47)) := (Below.refl _ w).alloc (Nat.le_refl _) _
  have hbox0 : Box (w.alloc (.cells #[.int .i64 2, .slice AL L.length cL, .int .i64 a, .int .i64 b, .int .i64 d, .bool bf] 47)) w.heap.size 2 AL L.length cL a b d bf := heap_alloc_new w _
  have hL0 := hL.below hbel0
  have hbs := hbox0.lt
  go_enter Try.func46, Try.ntmps46
  go_wp2_with (first
    | (at_builtin; refine wpList_app rfl (.const (.slice none 0 0)) (.tmp 26) elI rfl (w.heap.size + 1) _ 0 [] rfl (World.ownsRow_nil _ _ _ _) AL L.length cL (ints L) rfl hL0 (ints_one L) (by unfold maxLen; omega) (by omega) (by simp) ?_; intro v1 w1 o1 bb1 f1; have O1 : OwnI w1 (w.heap.size + 1) v1 L := (by simpa [OwnI] using o1); obtain ⟨A1, c1, rfl⟩ := own_form O1; have hbox1 := hbox0.only bb1 (by intro h; cases h); have B1 : Below w.heap.size w w1 := bb1.after hbel0 (Nat.le_refl _) (fun k h => by cases h); have hs1 := hbox1.lt; clear o1 f1)
    | (at_builtin; refine wpList_app1 rfl (.tmp 27) (.tmp 28) elI rfl (w.heap.size + 1) _ L.length (ints L) rfl O1 (.int .i64 77) rfl rfl (by unfold maxLen; omega) (by omega) (by omega) ?_; intro v2 w2 o2 bb2 f2; have O2 := own_snoc o2; obtain ⟨A2, c2, rfl⟩ := own_form o2; have hcp : (L.length : Int) + 1 ≤ (c2 : Int) := (by have := (Rd.of_own o2).cap; omega); have hcp2 : (L.length : Int) ≤ (c2 : Int) := (by omega); have hbox2 := hbox1.only bb2 (fun h => by have := (O1.lt _ h).1; omega); have B2 : Below w.heap.size w w2 := bb2.after B1 (Nat.le_refl _) (fun k h => by have := (O1.lt k h).1; omega); obtain ⟨x0, x1, x2, x3, x4, x5⟩ := box_cells hbox2; clear o2 f2 bb1 bb2 O1 hbox1 B1))
  have D2 := hd.below B2
  have R2 := hr.below B2
  have RL2 := hL.below B2
  have BB : Below B w w2 := B2.mono hB
  have hg2 := D2.lt
  have ho2 := D2.olt
  have hge := D2.ge
  have hlN := hd.len
  have hgw := hd.lt
  have hd2 := B2
  have kk2 : Only (fun k => k = g ∨ v.ownBlock = some k) w w2 := only_b (Only.refl _ w) hd2
  have sz2 := hd2.size
  have hod := fun k h => (hd.olt k h).2
  have hbxS : ¬ (w.heap.size = g ∨ v.ownBlock = some w.heap.size) := fun h => h.elim (fun h => by have := hd.lt; omega) (fun h => by have := (hd.olt _ h).2; omega)
  have Hr := Lib.hid hr
  have HLr := Lib.hid hL
  clear hbel0 hbox0 hL0 hbs hs1 hd hr hL
  clear hcp hcp2 O2 hbox2
  refine (pop_calls A _ c l a w2 R2 hn).mono ?_
  rintro e w3 ⟨s1, s2, rfl, O1, O3, b3⟩
  have D3 := D2.below b3
  have C3 := (box_cells_below x2 b3)
  have B3 := below_add BB hB b3
  obtain ⟨T, hT⟩ : ∃ T, T = l.take (popN l.length a) := ⟨_, rfl⟩
  obtain ⟨U, hU⟩ : ∃ U, U = l.drop (popN l.length a) := ⟨_, rfl⟩
  have hUl : U.length ≤ l.length := by rw [hU, List.length_drop]; omega
  rw [← hT] at O1
  rw [← hU] at O3
  have HT := Lib.hid hT
  have HU := Lib.hid hU
  obtain ⟨A1, d1, rfl⟩ := own_form O1
  obtain ⟨A3, d3, rfl⟩ := own_form O3
  have l1 := O1.lt
  have l3 := O3.lt
  clear hT hU x0 x1 x2 x3 x4 x5
  go_wp2_with fail
  refine (popFront_same B g N v l a w3 D3 (by omega) a1 a2).mono ?_
  rintro e w4 ⟨p, rfl, O4, v4, D4, k4, hv4⟩
  rw [← HT.out] at O4
  rw [← HU.out] at D4
  have hk : ∀ k, k = g ∨ v.ownBlock = some k → B ≤ k ∧ k < w2.heap.size := fun k h => h.elim (fun h => by subst h; exact ⟨hge, hg2⟩) (fun h => ho2 k h)
  have O14 := own_only O1 k4 (fun k h e => by have := l1 k h; have := hk k e; omega)
  have O34 := own_only O3 k4 (fun k h e => by have := l3 k h; have := hk k e; omega)
  have B4 := k4.after B3 hB (fun k h => (hk k h).1)
  obtain ⟨A4, d4, rfl⟩ := own_form O4
  go_wp2_with fail
  refine (same_calls A4 A1 _ _ d4 d1 T T _ (Rd.of_own O4) (Rd.of_own O14)).mono ?_
  rintro e w5 ⟨rfl, nd5, rfl⟩
  go_wp2_with fail
  go_ret2
  exact ⟨A3, U.length, d3, U, v4, N, rfl, (Rd.of_own O34).drawn nd5, D4.drawn nd5, apart_new O3 hg2 (fun k h => (ho2 k (hv4 ▸ h)).2), by omega, by omega, ((only_b kk2 b3).trans k4 (fun k h => .inl h)).drawn nd5, fun k h => .inl (hv4 ▸ h), new_A O3 sz2⟩

set_option maxHeartbeats 4000000 in
theorem doPut_calls (B g N : Nat) (v : Value) (l : List Int) (A : Option Addr) (n c : Nat) (AL : Option Addr) (nL cL : Nat) (L : List Int) (a b d : Int) (bf : Bool) (w : World)
    (hd : Dqn w B g v l N) (hr : RdI w A n c l) (ha : Apart g v A l) (hL : RdI w AL nL cL L) (haL : Apart g v AL L) (hB : B ≤ w.heap.size) (hN : N + nL ≤ 8388608) (hn : n ≤ 1048576) (hnL : nL ≤ 1048576)
    (a1 : -9223372036854775808 ≤ a) (a2 : a ≤ 9223372036854775807) (b1 : -9223372036854775808 ≤ b) (b2 : b ≤ 9223372036854775807) :
    Calls Try.prog 46 #[.pointer (some ⟨g, 0, none⟩), .slice A n c, .agg #[.int .i64 4, .slice AL nL cL, .int .i64 a, .int .i64 b, .int .i64 d, .bool bf]] w (DoPost B g N v l A nL w) := by
  obtain rfl := rdi_len hr
  obtain rfl := rdi_len hL
  have hbel0 : Below w.heap.size w (w.alloc (.cells #[.int .i64 4, .slice AL L.length cL, .int .i64 a, .int .i64 b, .int .i64 d, .bool bf] 47)) := (Below.refl _ w).alloc (Nat.le_refl _) _
  have hbox0 : Box (w.alloc (.cells #[.int .i64 4, .slice AL L.length cL, .int .i64 a, .int .i64 b, .int .i64 d, .bool bf] 47)) w.heap.size 4 AL L.length cL a b d bf := heap_alloc_new w _
  have hL0 := hL.below hbel0
  have hbs := hbox0.lt
  go_enter Try.func46, Try.ntmps46
  go_wp2_with (first
    | (at_builtin; refine wpList_app rfl (.const (.slice none 0 0)) (.tmp 26) elI rfl (w.heap.size + 1) _ 0 [] rfl (World.ownsRow_nil _ _ _ _) AL L.length cL (ints L) rfl hL0 (ints_one L) (by unfold maxLen; omega) (by omega) (by simp) ?_; intro v1 w1 o1 bb1 f1; have O1 : OwnI w1 (w.heap.size + 1) v1 L := (by simpa [OwnI] using o1); obtain ⟨A1, c1, rfl⟩ := own_form O1; have hbox1 := hbox0.only bb1 (by intro h; cases h); have B1 : Below w.heap.size w w1 := bb1.after hbel0 (Nat.le_refl _) (fun k h => by cases h); have hs1 := hbox1.lt; clear o1 f1)
    | (at_builtin; refine wpList_app1 rfl (.tmp 27) (.tmp 28) elI rfl (w.heap.size + 1) _ L.length (ints L) rfl O1 (.int .i64 77) rfl rfl (by unfold maxLen; omega) (by omega) (by omega) ?_; intro v2 w2 o2 bb2 f2; have O2 := own_snoc o2; obtain ⟨A2, c2, rfl⟩ := own_form o2; have hcp : (L.length : Int) + 1 ≤ (c2 : Int) := (by have := (Rd.of_own o2).cap; omega); have hcp2 : (L.length : Int) ≤ (c2 : Int) := (by omega); have hbox2 := hbox1.only bb2 (fun h => by have := (O1.lt _ h).1; omega); have B2 : Below w.heap.size w w2 := bb2.after B1 (Nat.le_refl _) (fun k h => by have := (O1.lt k h).1; omega); obtain ⟨x0, x1, x2, x3, x4, x5⟩ := box_cells hbox2; clear o2 f2 bb1 bb2 O1 hbox1 B1))
  have D2 := hd.below B2
  have R2 := hr.below B2
  have RL2 := hL.below B2
  have BB : Below B w w2 := B2.mono hB
  have hg2 := D2.lt
  have ho2 := D2.olt
  have hge := D2.ge
  have hlN := hd.len
  have hgw := hd.lt
  have hd2 := B2
  have kk2 : Only (fun k => k = g ∨ v.ownBlock = some k) w w2 := only_b (Only.refl _ w) hd2
  have sz2 := hd2.size
  have hod := fun k h => (hd.olt k h).2
  have hbxS : ¬ (w.heap.size = g ∨ v.ownBlock = some w.heap.size) := fun h => h.elim (fun h => by have := hd.lt; omega) (fun h => by have := (hd.olt _ h).2; omega)
  have Hr := Lib.hid hr
  have HLr := Lib.hid hL
  clear hbel0 hbox0 hL0 hbs hs1 hd hr hL
  clear hcp hcp2 O2 hbox2
  refine (rPut_calls A _ c l a b w2 R2 (by omega) a1 a2).mono ?_
  rintro e w3 (⟨hp, rfl, rfl⟩ | ⟨k, s, hp, rfl, O3, b3⟩)
  · have HP := Lib.hid hp
    clear hp
    go_wp2_with fail
    refine (dput_calls B g N v l a b w3 D2 (by omega) a1 a2).mono ?_
    rintro e w4 (⟨_, rfl, nd4, rfl⟩ | ⟨k, hp, _⟩)
    case inr => rw [HP.out] at hp; cases hp
    go_wp2_with fail
    go_ret2
    exact ⟨A, l.length, c, l, v, N, rfl, R2.drawn nd4, D2.drawn nd4, ha, by omega, by omega, kk2.drawn nd4, fun k h => .inl h, fun ad e _ => .inl ⟨rfl, rfl⟩⟩
  · have HP := Lib.hid hp
    clear hp
    have D3 := D2.below b3
    have B3 := below_add BB hB b3
    have C3 := box_cells_below x2 b3
    have C4 := box_cells_below x3 b3
    have hlk : (l.set k b).length = l.length := List.length_set
    have l3 := O3.lt
    obtain ⟨T, hT⟩ : ∃ T, T = l.set k b := ⟨_, rfl⟩
    rw [← hT] at O3 hlk
    have HT := Lib.hid hT
    have HL := Lib.hid hlk
    clear hT hlk x0 x1 x2 x3 x4 x5
    obtain ⟨A3, d3, rfl⟩ := own_form O3
    go_wp2_with fail
    refine (dput_calls B g N v l a b w3 D3 (by omega) a1 a2).mono ?_
    rintro e w4 (⟨hp, _⟩ | ⟨k', hp, rfl, v4, D4, k4, hv4⟩)
    case inl => rw [HP.out] at hp; cases hp
    obtain rfl : k = k' := by rw [HP.out] at hp; exact Option.some.inj hp
    rw [← HT.out] at D4
    clear hp
    have hk : ∀ k, k = g ∨ v.ownBlock = some k → B ≤ k ∧ k < w2.heap.size := fun k h => h.elim (fun h => by subst h; exact ⟨hge, hg2⟩) (fun h => ho2 k h)
    have O34 := own_only O3 k4 (fun k h e => by have := l3 k h; have := hk k e; omega)
    have B4 := k4.after B3 hB (fun k h => (hk k h).1)
    go_wp2_with fail
    go_ret2
    have hTl := HL.out
    exact ⟨A3, T.length, d3, T, v4, N, rfl, Rd.of_own O34, D4, apart_new O3 hg2 (fun k h => (ho2 k (hv4 ▸ h)).2), by omega, by omega, (only_b kk2 b3).trans k4 (fun k h => .inl h), fun k h => .inl (hv4 ▸ h), new_A O3 sz2⟩

set_option maxHeartbeats 4000000 in
theorem doTrim_calls (B g N : Nat) (v : Value) (l : List Int) (A : Option Addr) (n c : Nat) (AL : Option Addr) (nL cL : Nat) (L : List Int) (a b d : Int) (bf : Bool) (w : World)
    (hd : Dqn w B g v l N) (hr : RdI w A n c l) (ha : Apart g v A l) (hL : RdI w AL nL cL L) (haL : Apart g v AL L) (hB : B ≤ w.heap.size) (hN : N + nL ≤ 8388608) (hn : n ≤ 1048576) (hnL : nL ≤ 1048576)
    (a1 : -9223372036854775808 ≤ a) (a2 : a ≤ 9223372036854775807) (b1 : -9223372036854775808 ≤ b) (b2 : b ≤ 9223372036854775807) :
    Calls Try.prog 46 #[.pointer (some ⟨g, 0, none⟩), .slice A n c, .agg #[.int .i64 5, .slice AL nL cL, .int .i64 a, .int .i64 b, .int .i64 d, .bool bf]] w (DoPost B g N v l A nL w) := by
  obtain rfl := rdi_len hr
  obtain rfl := rdi_len hL
  have hbel0 : Below w.heap.size w (w.alloc (.cells #[.int .i64 5, .slice AL L.length cL, .int .i64 a, .int .i64 b, .int .i64 d, .bool bf] 47)) := (Below.refl _ w).alloc (Nat.le_refl _) _
  have hbox0 : Box (w.alloc (.cells #[.int .i64 5, .slice AL L.length cL, .int .i64 a, .int .i64 b, .int .i64 d, .bool bf] 47)) w.heap.size 5 AL L.length cL a b d bf := heap_alloc_new w _
  have hL0 := hL.below hbel0
  have hbs := hbox0.lt
  go_enter Try.func46, Try.ntmps46
  go_wp2_with (first
    | (at_builtin; refine wpList_app rfl (.const (.slice none 0 0)) (.tmp 26) elI rfl (w.heap.size + 1) _ 0 [] rfl (World.ownsRow_nil _ _ _ _) AL L.length cL (ints L) rfl hL0 (ints_one L) (by unfold maxLen; omega) (by omega) (by simp) ?_; intro v1 w1 o1 bb1 f1; have O1 : OwnI w1 (w.heap.size + 1) v1 L := (by simpa [OwnI] using o1); obtain ⟨A1, c1, rfl⟩ := own_form O1; have hbox1 := hbox0.only bb1 (by intro h; cases h); have B1 : Below w.heap.size w w1 := bb1.after hbel0 (Nat.le_refl _) (fun k h => by cases h); have hs1 := hbox1.lt; clear o1 f1)
    | (at_builtin; refine wpList_app1 rfl (.tmp 27) (.tmp 28) elI rfl (w.heap.size + 1) _ L.length (ints L) rfl O1 (.int .i64 77) rfl rfl (by unfold maxLen; omega) (by omega) (by omega) ?_; intro v2 w2 o2 bb2 f2; have O2 := own_snoc o2; obtain ⟨A2, c2, rfl⟩ := own_form o2; have hcp : (L.length : Int) + 1 ≤ (c2 : Int) := (by have := (Rd.of_own o2).cap; omega); have hcp2 : (L.length : Int) ≤ (c2 : Int) := (by omega); have hbox2 := hbox1.only bb2 (fun h => by have := (O1.lt _ h).1; omega); have B2 : Below w.heap.size w w2 := bb2.after B1 (Nat.le_refl _) (fun k h => by have := (O1.lt k h).1; omega); obtain ⟨x0, x1, x2, x3, x4, x5⟩ := box_cells hbox2; clear o2 f2 bb1 bb2 O1 hbox1 B1))
  have D2 := hd.below B2
  have R2 := hr.below B2
  have RL2 := hL.below B2
  have BB : Below B w w2 := B2.mono hB
  have hg2 := D2.lt
  have ho2 := D2.olt
  have hge := D2.ge
  have hlN := hd.len
  have hgw := hd.lt
  have hd2 := B2
  have kk2 : Only (fun k => k = g ∨ v.ownBlock = some k) w w2 := only_b (Only.refl _ w) hd2
  have sz2 := hd2.size
  have hod := fun k h => (hd.olt k h).2
  have hbxS : ¬ (w.heap.size = g ∨ v.ownBlock = some w.heap.size) := fun h => h.elim (fun h => by have := hd.lt; omega) (fun h => by have := (hd.olt _ h).2; omega)
  have Hr := Lib.hid hr
  have HLr := Lib.hid hL
  clear hbel0 hbox0 hL0 hbs hs1 hd hr hL
  clear hcp hcp2 O2
  have hpl := piece_len l a b
  obtain ⟨T, hT⟩ : ∃ T, T = pieceL l a b := ⟨_, rfl⟩
  have HT := Lib.hid hT
  rw [← hT] at hpl
  clear hT
  refine (trim_calls B g v l a b w2 (D2.dq (by omega)) a1 a2 b1 b2).mono ?_
  rintro e w3 ⟨rfl, v3, _, k3, hv3, hf3⟩
  rw [← HT.out] at hf3
  have D3 := dqn_fresh hf3
  have R3 := rd_apart R2 (k3.mono (fun k h => .inl h)) ha
  have B3 := k3.after BB hB (fun k h => by subst h; exact hge)
  have hbox3 := hbox2.only k3 (fun h => by omega)
  clear x0 x1 x2 x3 x4 x5
  obtain ⟨x0, x1, x2, x3, x4, x5⟩ := box_cells hbox3
  have hg3 := D3.lt
  have ho3 := D3.olt
  go_wp2_with fail
  refine (rPiece_calls A _ c l a b w3 R3 (by omega) a1 a2 b1 b2).mono ?_
  rintro e w4 ⟨s4, rfl, O4, b4⟩
  rw [← HT.out] at O4
  obtain ⟨A4, d4, rfl⟩ := own_form O4
  have D4 := D3.below b4
  have B4 := below_add B3 hB b4
  go_wp2_with fail
  go_ret2
  exact ⟨A4, T.length, d4, T, v3, T.length, rfl, Rd.of_own O4, D4, apart_new O4 hg3 (fun k h => (ho3 k h).2), by omega, by omega, only_b (kk2.trans k3 (fun k h => .inl (.inl h))) b4, fun k h => .inr (Nat.le_trans sz2 (hv3 k h)), new_A O4 (Nat.le_trans sz2 k3.size)⟩

set_option maxHeartbeats 4000000 in
theorem doRemove_calls (B g N : Nat) (v : Value) (l : List Int) (A : Option Addr) (n c : Nat) (AL : Option Addr) (nL cL : Nat) (L : List Int) (a b d : Int) (bf : Bool) (w : World)
    (hd : Dqn w B g v l N) (hr : RdI w A n c l) (ha : Apart g v A l) (hL : RdI w AL nL cL L) (haL : Apart g v AL L) (hB : B ≤ w.heap.size) (hN : N + nL ≤ 8388608) (hn : n ≤ 1048576) (hnL : nL ≤ 1048576)
    (a1 : -9223372036854775808 ≤ a) (a2 : a ≤ 9223372036854775807) (b1 : -9223372036854775808 ≤ b) (b2 : b ≤ 9223372036854775807) :
    Calls Try.prog 46 #[.pointer (some ⟨g, 0, none⟩), .slice A n c, .agg #[.int .i64 6, .slice AL nL cL, .int .i64 a, .int .i64 b, .int .i64 d, .bool bf]] w (DoPost B g N v l A nL w) := by
  obtain rfl := rdi_len hr
  obtain rfl := rdi_len hL
  have hbel0 : Below w.heap.size w (w.alloc (.cells #[.int .i64 6, .slice AL L.length cL, .int .i64 a, .int .i64 b, .int .i64 d, .bool bf] 47)) := (Below.refl _ w).alloc (Nat.le_refl _) _
  have hbox0 : Box (w.alloc (.cells #[.int .i64 6, .slice AL L.length cL, .int .i64 a, .int .i64 b, .int .i64 d, .bool bf] 47)) w.heap.size 6 AL L.length cL a b d bf := heap_alloc_new w _
  have hL0 := hL.below hbel0
  have hbs := hbox0.lt
  go_enter Try.func46, Try.ntmps46
  go_wp2_with (first
    | (at_builtin; refine wpList_app rfl (.const (.slice none 0 0)) (.tmp 26) elI rfl (w.heap.size + 1) _ 0 [] rfl (World.ownsRow_nil _ _ _ _) AL L.length cL (ints L) rfl hL0 (ints_one L) (by unfold maxLen; omega) (by omega) (by simp) ?_; intro v1 w1 o1 bb1 f1; have O1 : OwnI w1 (w.heap.size + 1) v1 L := (by simpa [OwnI] using o1); obtain ⟨A1, c1, rfl⟩ := own_form O1; have hbox1 := hbox0.only bb1 (by intro h; cases h); have B1 : Below w.heap.size w w1 := bb1.after hbel0 (Nat.le_refl _) (fun k h => by cases h); have hs1 := hbox1.lt; clear o1 f1)
    | (at_builtin; refine wpList_app1 rfl (.tmp 27) (.tmp 28) elI rfl (w.heap.size + 1) _ L.length (ints L) rfl O1 (.int .i64 77) rfl rfl (by unfold maxLen; omega) (by omega) (by omega) ?_; intro v2 w2 o2 bb2 f2; have O2 := own_snoc o2; obtain ⟨A2, c2, rfl⟩ := own_form o2; have hcp : (L.length : Int) + 1 ≤ (c2 : Int) := (by have := (Rd.of_own o2).cap; omega); have hcp2 : (L.length : Int) ≤ (c2 : Int) := (by omega); have hbox2 := hbox1.only bb2 (fun h => by have := (O1.lt _ h).1; omega); have B2 : Below w.heap.size w w2 := bb2.after B1 (Nat.le_refl _) (fun k h => by have := (O1.lt k h).1; omega); obtain ⟨x0, x1, x2, x3, x4, x5⟩ := box_cells hbox2; clear o2 f2 bb1 bb2 O1 hbox1 B1))
  have D2 := hd.below B2
  have R2 := hr.below B2
  have RL2 := hL.below B2
  have BB : Below B w w2 := B2.mono hB
  have hg2 := D2.lt
  have ho2 := D2.olt
  have hge := D2.ge
  have hlN := hd.len
  have hgw := hd.lt
  have hd2 := B2
  have kk2 : Only (fun k => k = g ∨ v.ownBlock = some k) w w2 := only_b (Only.refl _ w) hd2
  have sz2 := hd2.size
  have hod := fun k h => (hd.olt k h).2
  have hbxS : ¬ (w.heap.size = g ∨ v.ownBlock = some w.heap.size) := fun h => h.elim (fun h => by have := hd.lt; omega) (fun h => by have := (hd.olt _ h).2; omega)
  have Hr := Lib.hid hr
  have HLr := Lib.hid hL
  clear hbel0 hbox0 hL0 hbs hs1 hd hr hL
  clear hcp hcp2 O2
  have hpl := rm_le l a b
  refine (rRemove_calls A _ c l a b w2 R2 (by omega) a1 a2).mono ?_
  rintro e w3 ⟨s3, rfl, O3, b3⟩
  have D3 := D2.below b3
  have B3 := below_add BB hB b3
  have hbox3 := hbox2.below b3
  clear x0 x1 x2 x3 x4 x5
  obtain ⟨x0, x1, x2, x3, x4, x5⟩ := box_cells hbox3
  obtain ⟨T, hT⟩ : ∃ T, T = removeL l a b := ⟨_, rfl⟩
  have HT := Lib.hid hT
  rw [← hT] at hpl O3 ⊢
  clear hT
  obtain ⟨A3, d3, rfl⟩ := own_form O3
  have l3 := O3.lt
  go_wp2_with fail
  refine (remove_calls B g v l a b w3 (D3.dq (by omega)) a1 a2).mono ?_
  rintro e w4 ⟨v4, rfl, _, k4, hv4, hf4⟩
  rw [← HT.out] at hf4 ⊢
  have D4 := dqn_fresh hf4
  have O34 := own_only O3 k4 (fun k h e => by have := l3 k h; omega)
  have B4 := k4.after B3 hB (fun k h => by subst h; exact hge)
  go_wp2_with fail
  go_ret2
  refine ⟨A3, T.length, d3, T, v4, T.length, rfl, Rd.of_own O34, D4, fun hl ad e => ?_, by omega, by omega, (only_b kk2 b3).trans k4 (fun k h => .inl (.inl h)), fun k h => .inr (Nat.le_trans sz2 (Nat.le_trans b3.size (hv4 k h))), new_A O3 sz2⟩
  have h3 := l3 ad.block (by rw [e]; rfl)
  exact ⟨by omega, fun h => by have := hv4 _ h; omega⟩

set_option maxHeartbeats 4000000 in
theorem doInsert_calls (B g N : Nat) (v : Value) (l : List Int) (A : Option Addr) (n c : Nat) (AL : Option Addr) (nL cL : Nat) (L : List Int) (a b d : Int) (bf : Bool) (w : World)
    (hd : Dqn w B g v l N) (hr : RdI w A n c l) (ha : Apart g v A l) (hL : RdI w AL nL cL L) (haL : Apart g v AL L) (hB : B ≤ w.heap.size) (hN : N + nL ≤ 8388608) (hn : n ≤ 1048576) (hnL : nL ≤ 1048576)
    (a1 : -9223372036854775808 ≤ a) (a2 : a ≤ 9223372036854775807) (b1 : -9223372036854775808 ≤ b) (b2 : b ≤ 9223372036854775807) :
    Calls Try.prog 46 #[.pointer (some ⟨g, 0, none⟩), .slice A n c, .agg #[.int .i64 7, .slice AL nL cL, .int .i64 a, .int .i64 b, .int .i64 d, .bool bf]] w (DoPost B g N v l A nL w) := by
  obtain rfl := rdi_len hr
  obtain rfl := rdi_len hL
  have hbel0 : Below w.heap.size w (w.alloc (.cells #[.int .i64 7, .slice AL L.length cL, .int .i64 a, .int .i64 b, .int .i64 d, .bool bf] 47)) := (Below.refl _ w).alloc (Nat.le_refl _) _
  have hbox0 : Box (w.alloc (.cells #[.int .i64 7, .slice AL L.length cL, .int .i64 a, .int .i64 b, .int .i64 d, .bool bf] 47)) w.heap.size 7 AL L.length cL a b d bf := heap_alloc_new w _
  have hL0 := hL.below hbel0
  have hbs := hbox0.lt
  go_enter Try.func46, Try.ntmps46
  go_wp2_with (first
    | (at_builtin; refine wpList_app rfl (.const (.slice none 0 0)) (.tmp 26) elI rfl (w.heap.size + 1) _ 0 [] rfl (World.ownsRow_nil _ _ _ _) AL L.length cL (ints L) rfl hL0 (ints_one L) (by unfold maxLen; omega) (by omega) (by simp) ?_; intro v1 w1 o1 bb1 f1; have O1 : OwnI w1 (w.heap.size + 1) v1 L := (by simpa [OwnI] using o1); obtain ⟨A1, c1, rfl⟩ := own_form O1; have hbox1 := hbox0.only bb1 (by intro h; cases h); have B1 : Below w.heap.size w w1 := bb1.after hbel0 (Nat.le_refl _) (fun k h => by cases h); have hs1 := hbox1.lt; clear o1 f1)
    | (at_builtin; refine wpList_app1 rfl (.tmp 27) (.tmp 28) elI rfl (w.heap.size + 1) _ L.length (ints L) rfl O1 (.int .i64 77) rfl rfl (by unfold maxLen; omega) (by omega) (by omega) ?_; intro v2 w2 o2 bb2 f2; have O2 := own_snoc o2; obtain ⟨A2, c2, rfl⟩ := own_form o2; have hcp : (L.length : Int) + 1 ≤ (c2 : Int) := (by have := (Rd.of_own o2).cap; omega); have hcp2 : (L.length : Int) ≤ (c2 : Int) := (by omega); have hbox2 := hbox1.only bb2 (fun h => by have := (O1.lt _ h).1; omega); have B2 : Below w.heap.size w w2 := bb2.after B1 (Nat.le_refl _) (fun k h => by have := (O1.lt k h).1; omega); obtain ⟨x0, x1, x2, x3, x4, x5⟩ := box_cells hbox2; clear o2 f2 bb1 bb2 O1 hbox1 B1))
  have D2 := hd.below B2
  have R2 := hr.below B2
  have RL2 := hL.below B2
  have BB : Below B w w2 := B2.mono hB
  have hg2 := D2.lt
  have ho2 := D2.olt
  have hge := D2.ge
  have hlN := hd.len
  have hgw := hd.lt
  have hd2 := B2
  have kk2 : Only (fun k => k = g ∨ v.ownBlock = some k) w w2 := only_b (Only.refl _ w) hd2
  have sz2 := hd2.size
  have hod := fun k h => (hd.olt k h).2
  have hbxS : ¬ (w.heap.size = g ∨ v.ownBlock = some w.heap.size) := fun h => h.elim (fun h => by have := hd.lt; omega) (fun h => by have := (hd.olt _ h).2; omega)
  have Hr := Lib.hid hr
  have HLr := Lib.hid hL
  clear hbel0 hbox0 hL0 hbs hs1 hd hr hL
  clear hcp hcp2 O2
  refine (rInsert_calls A _ c l bf a b w2 R2 (by omega)).mono ?_
  rintro e w3 (⟨hp, rfl, rfl⟩ | ⟨i, s3, hi, hni, rfl, O3, b3⟩)
  · have HP := Lib.hid hp
    clear hp
    go_wp2_with fail
    refine (insert_calls B g v l bf a b w3 (D2.dq (by omega)) (by omega)).mono ?_
    rintro e w4 (⟨_, rfl, nd4, rfl⟩ | ⟨i, v4, hi, _⟩)
    case inr => exact absurd (List.mem_of_getElem? hi) HP.out
    go_wp2_with fail
    go_ret2
    exact ⟨A, l.length, c, l, v, N, rfl, R2.drawn nd4, D2.drawn nd4, ha, by omega, by omega, kk2.drawn nd4, fun k h => .inl h, fun ad e _ => .inl ⟨rfl, rfl⟩⟩
  · have D3 := D2.below b3
    have B3 := below_add BB hB b3
    have hbox3 := hbox2.below b3
    clear x0 x1 x2 x3 x4 x5
    obtain ⟨x0, x1, x2, x3, x4, x5⟩ := box_cells hbox3
    have hpl := ins_len' l (if bf = true then i else i + 1) b
    obtain ⟨T, hT⟩ : ∃ T, T = insAt l (if bf = true then i else i + 1) b := ⟨_, rfl⟩
    have HT := Lib.hid hT
    rw [← hT] at hpl O3
    have HPL := Lib.hid hpl
    have HI := Lib.hid hi
    have HNI := Lib.hid hni
    clear hT hpl hi hni
    obtain ⟨A3, d3, rfl⟩ := own_form O3
    have l3 := O3.lt
    go_wp2_with fail
    refine (insert_calls B g v l bf a b w3 (D3.dq (by omega)) (by omega)).mono ?_
    rintro e w4 (⟨hp, _⟩ | ⟨i', v4, hi', hni', rfl, _, k4, hv4, hf4⟩)
    case inl => exact absurd (List.mem_of_getElem? HI.out) hp
    obtain rfl := ins_same HI.out HNI.out hi' hni'
    rw [← HT.out] at hf4
    clear hi' hni'
    have D4 := dqn_fresh hf4
    have O34 := own_only O3 k4 (fun k h e => by have := l3 k h; omega)
    have B4 := k4.after B3 hB (fun k h => by subst h; exact hge)
    go_wp2_with fail
    go_ret2
    have hTl := HPL.out
    refine ⟨A3, T.length, d3, T, v4, T.length, rfl, Rd.of_own O34, D4, fun hl ad e => ?_, by omega, by omega, (only_b kk2 b3).trans k4 (fun k h => .inl (.inl h)), fun k h => .inr (Nat.le_trans sz2 (Nat.le_trans b3.size (hv4 k h))), new_A O3 sz2⟩
    have h3 := l3 ad.block (by rw [e]; rfl)
    exact ⟨by omega, fun h => by have := hv4 _ h; omega⟩

end Go.Proofs.Ytgbgdgncdanblaa.DrC
