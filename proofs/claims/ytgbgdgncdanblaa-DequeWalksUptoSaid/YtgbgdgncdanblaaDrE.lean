/-
  What 'do' hands back and leaves, by the kind of deed (PushBack). Conditions: as stated.
-/
import Derived.Test.YtgbgdgncdanblaaDrB
set_option maxRecDepth 100000
set_option linter.unusedSimpArgs false
set_option linter.unusedVariables false
namespace Go.Proofs.Ytgbgdgncdanblaa.DrE
open Go.RowKit Go.Proofs.Ytgbgdgncdanblaa.Mem Go.Proofs.Ytgbgdgncdanblaa.DqA Go.Proofs.Ytgbgdgncdanblaa.DqB Go.Proofs.Ytgbgdgncdanblaa.DqC Go.Proofs.Ytgbgdgncdanblaa.DqD Go.Proofs.Ytgbgdgncdanblaa.DqE Go.Proofs.Ytgbgdgncdanblaa.DqF Go.Proofs.Ytgbgdgncdanblaa.DqG Go.Proofs.Ytgbgdgncdanblaa.DqH Go.Proofs.Ytgbgdgncdanblaa.DqI Go.Proofs.Ytgbgdgncdanblaa.DqJ Go.Proofs.Ytgbgdgncdanblaa.DqO Go.Proofs.Ytgbgdgncdanblaa.DqP Go.Proofs.Ytgbgdgncdanblaa.DqQ Go.Proofs.Ytgbgdgncdanblaa.DqU Go.Proofs.Ytgbgdgncdanblaa.DqV Go.Proofs.Ytgbgdgncdanblaa.DqW Go.Proofs.Ytgbgdgncdanblaa.DqX Go.Proofs.Ytgbgdgncdanblaa.DqY Go.Proofs.Ytgbgdgncdanblaa.DqZ Go.Proofs.Ytgbgdgncdanblaa.DrA Go.Proofs.Ytgbgdgncdanblaa.DrB

set_option maxHeartbeats 4000000 in
theorem doPushBack_calls (B g N : Nat) (v : Value) (l : List Int) (A : Option Addr) (n c : Nat) (AL : Option Addr) (nL cL : Nat) (L : List Int) (a b d : Int) (bf : Bool) (w : World)
    (hd : Dqn w B g v l N) (hr : RdI w A n c l) (ha : Apart g v A l) (hL : RdI w AL nL cL L) (haL : Apart g v AL L) (hB : B ≤ w.heap.size) (hN : N + nL ≤ 8388608) (hn : n ≤ 1048576) (hnL : nL ≤ 1048576)
    (a1 : -9223372036854775808 ≤ a) (a2 : a ≤ 9223372036854775807) (b1 : -9223372036854775808 ≤ b) (b2 : b ≤ 9223372036854775807) :
    Calls Try.prog 46 #[.pointer (some ⟨g, 0, none⟩), .slice A n c, .agg #[.int .i64 1, .slice AL nL cL, .int .i64 a, .int .i64 b, .int .i64 d, .bool bf]] w (DoPost B g N v l A nL w) := by
  obtain rfl := rdi_len hr
  obtain rfl := rdi_len hL
  have hbel0 : Below w.heap.size w (w.alloc (.cells #[.int .i64 1, .slice AL L.length cL, .int .i64 a, .int .i64 b, .int .i64 d, .bool bf] 47)) := (Below.refl _ w).alloc (Nat.le_refl _) _
  have hbox0 : Box (w.alloc (.cells #[.int .i64 1, .slice AL L.length cL, .int .i64 a, .int .i64 b, .int .i64 d, .bool bf] 47)) w.heap.size 1 AL L.length cL a b d bf := heap_alloc_new w _
  have hL0 := hL.below hbel0
  have hbs := hbox0.lt
  go_enter Try.func46, Try.ntmps46
  go_wp2_with (first
    | (at_builtin; refine wpList_app rfl (.const (.slice none 0 0)) (.tmp 26) elI rfl (w.heap.size + 1) _ 0 [] rfl (World.ownsRow_nil _ _ _ _) AL L.length cL (ints L) rfl hL0 (ints_one L) (by unfold maxLen; omega) (by omega) (by simp) ?_; intro v1 w1 o1 bb1 f1; have O1 : OwnI w1 (w.heap.size + 1) v1 L := (by simpa [OwnI] using o1); obtain ⟨A1, c1, rfl⟩ := own_form O1; have hbox1 := hbox0.only bb1 (by intro h; cases h); have B1 : Below w.heap.size w w1 := bb1.after hbel0 (Nat.le_refl _) (fun k h => by cases h); have hs1 := hbox1.lt; clear o1 f1)
    | (at_builtin; refine wpList_app1 rfl (.tmp 27) (.tmp 28) elI rfl (w.heap.size + 1) _ L.length (ints L) rfl O1 (.int .i64 77) rfl rfl (by unfold maxLen; omega) (by omega) (by omega) ?_; intro v2 w2 o2 bb2 f2; have O2 := own_snoc o2; obtain ⟨A2, c2, rfl⟩ := own_form o2; have hcp : (L.length : Int) + 1 ≤ (c2 : Int) := (by have := (Rd.of_own o2).cap; omega); have hcp2 : (L.length : Int) ≤ (c2 : Int) := (by omega); have hbox2 := hbox1.only bb2 (fun h => by have := (O1.lt _ h).1; omega); have B2 : Below w.heap.size w w2 := bb2.after B1 (Nat.le_refl _) (fun k h => by have := (O1.lt k h).1; omega); obtain ⟨x0, x1, x2, x3, x4, x5⟩ := box_cells hbox2; clear o2 f2 bb1 bb2 O1 hbox1 B1))
  have D2 := hd.below B2
  have R2 := hr.below B2
  have RL2 := hL.below B2
  have BB : Below B w w2 := B2.mono hB
  have hg2 := D2.lt
  have ho2 := D2.olt
  have hge := D2.ge
  have hlN := hd.len
  have hgw := hd.lt
  have hd2 := B2
  have kk2 : Only (fun k => k = g ∨ v.ownBlock = some k) w w2 := only_b (Only.refl _ w) hd2
  have sz2 := hd2.size
  have hod := fun k h => (hd.olt k h).2
  have hbxS : ¬ (w.heap.size = g ∨ v.ownBlock = some w.heap.size) := fun h => h.elim (fun h => by have := hd.lt; omega) (fun h => by have := (hd.olt _ h).2; omega)
  have Hr := Lib.hid hr
  have HLr := Lib.hid hL
  clear hbel0 hbox0 hL0 hbs hs1 hd hr hL
  have hlt2 := O2.lt
  obtain ⟨b2', rfl⟩ : ∃ b : Nat, A2 = some ⟨b, 0, none⟩ := by
    rcases O2.2 with ⟨e, _⟩ | ⟨b, cap, cur, e, _⟩
    · cases e
    · injection e with e1; exact ⟨b, e1⟩
  obtain ⟨p2, hp2, hb2, hb2', g77, RG⟩ := given_form O2
  injection hp2 with hp2
  subst hp2
  rw [add_mk, Nat.zero_add] at g77
  obtain ⟨LG, hLG⟩ : ∃ LG, LG = L.length + 1 := ⟨_, rfl⟩
  have hML : (L ++ [77]).length = LG := by rw [hLG]; simp
  rw [← hLG] at O2 ⊢
  have hix : (L.length : Int) < (LG : Int) := by omega
  have hLGb : LG ≤ 1048577 := by omega
  have hix0 : (0 : Int) ≤ (L.length : Int) := by omega
  have HLG := Lib.hid hLG
  have HML := Lib.hid hML
  clear hLG hML
  refine (pushBack_calls B g N v l _ _ c2 L w2 D2 RG (by omega) (Nat.le_trans hB hd2.size)).mono ?_
  rintro e w3 ⟨rfl, v3, D3, k3, f3⟩
  have hb2n : w.heap.size + 1 ≤ b2' := hb2
  have hb2l : b2' < w2.heap.size := hb2'
  have hb2S : ¬ (b2' = g ∨ v.ownBlock = some b2') := fun h => h.elim (fun h => by omega) (fun h => by have := hod _ h; omega)
  have hb23 : v3.ownBlock ≠ some b2' := fun h => by
    rcases f3 with f3 | ⟨k', f3, hk'⟩
    · exact hb2S (.inr (f3 ▸ h))
    · rw [f3] at h; injection h with h; omega
  have RL3 := rd_apart RL2 k3 haL
  have RG3 := RG.only k3 (fun ad e => by injection e with e; subst e; exact hb2S)
  have y1 := k3.cell x1 hbxS
  have y77 := k3.cell g77 hb2S
  have O23 := own_only O2 k3 (fun k h e => by have : k = b2' := by injection h with h; exact h.symm
                                              subst this; exact hb2S e)
  have kk3 : Only (fun k => k = g ∨ v.ownBlock = some k) w w3 := (Only.of_below hd2 |>.mono (S' := fun k => k = g ∨ v.ownBlock = some k ∨ w.heap.size ≤ k) (fun k h => .inr (.inr h)) |> fun h => ⟨h.os, h.tape, h.output, h.size, fun k hk hn => h.block k hk (fun c => c.elim (fun c => hn (.inl c)) (fun c => c.elim (fun c => hn (.inr c)) (by omega)))⟩ : Only (fun k => k = g ∨ v.ownBlock = some k) w w2).trans k3 (fun k h => .inl h)
  clear x0 x1 x2 x3 x4 x5 g77 hbox2 O2
  go_wp2_with fail
  go_region_held3 (fun w' => w'.cell? ⟨w.heap.size, 1, none⟩ = some (.slice AL L.length cL) ∧ w'.cell? ⟨b2', L.length, none⟩ = some (.int .i64 77))
    (first | exact ⟨y1, y77⟩ | exact two_below (w := w3) ⟨y1, y77⟩ b5)
    (first
      | (go_at_call 13; refine (same_eq _ AL _ _ _ cL L _ (rd_drew2 RG3) (rd_drew2 RL3)).mono ?_; rintro e w5 ⟨rfl, nd5, hw5⟩; have b5 : Below w3.heap.size w3 w5 := (by rw [hw5]; exact below_drawn ((Below.refl _ w3).drew) nd5); clear hw5))
  have O25 := own_keep O23 b5
  have D5 := D3.below b5
  have z1 := box_cells_below y1 b5
  have kk5 := only_b kk3 b5
  clear O23 y1 y77
  go_wp2_with fail
  go_loopw [10] (fun i wr => ∃ (j : Nat) (M : List Int), j ≤ LG ∧ i = .int .i64 j ∧ M.length = LG ∧ OwnI wr (w.heap.size + 1) (.slice (some ⟨b2', 0, none⟩) LG c2) M ∧ Only (fun k => k = b2') w5 wr) (fun i _ => LG - (intOf i).toNat)
  case atStart => exact ⟨0, L ++ [77], Nat.zero_le _, rfl, HML.out, O25, Only.refl _ _⟩
  case round =>
    obtain ⟨j, M, h1, rfl, hM, OM, OO⟩ := hrel
    by_cases hlt : j < LG
    · obtain ⟨b', x', e, cx, fx⟩ := own_at OM hlt
      injection e with e; injection e with e; subst e
      go_wp2_with fail
      exact ⟨⟨j + 1, M.set j _, by omega, by go_num, by simp [hM], own_put OM _, OO.put (p := ⟨b2', j, none⟩) (.inl rfl) _⟩, by simp [intOf]; omega⟩
    · obtain rfl : j = LG := by omega
      have kk6 : Only (fun k => k = g ∨ v.ownBlock = some k) w wr := kk5.trans OO (fun k h => .inr (by omega))
      have D6 := D5.only OO (fun h => by omega) (fun k hk h => by subst h; exact hb23 hk)
      have R6 := rd_apart Hr.out kk6 ha
      have RL6 := rd_apart HLr.out kk6 haL
      have z6 := OO.cell z1 (show ¬ (w.heap.size = b2') by omega)
      have B6 := kk6.after (Below.refl B w) hB (fun k h => h.elim (fun h => by subst h; exact hge) (fun h => (ho2 k h).1))
      clear OM hM O25 D5 z1
      generalize wr = w6 at kk6 D6 R6 RL6 z6 B6 ⊢
      go_wp2_with fail
      refine (joined_calls A AL _ _ c cL l L w6 R6 RL6 (by omega)).mono ?_
      rintro e w7 ⟨s7, rfl, O7, b7⟩
      obtain ⟨T, hT⟩ : ∃ T, T = l ++ L := ⟨_, rfl⟩
      have hTl : T.length = l.length + L.length := by rw [hT]; simp
      rw [← hT] at O7 D6
      have HTl := Lib.hid hTl
      clear hT hTl
      obtain ⟨A7, d7, rfl⟩ := own_form O7
      go_wp2_with fail
      go_ret2
      have hTl := HTl.out
      exact ⟨A7, T.length, d7, T, v3, N + L.length, rfl, Rd.of_own O7, D6.below b7, apart_new O7 D6.lt (fun k h => (D6.olt k h).2), by omega, by omega, only_b kk6 b7, own_turn f3 sz2, new_A O7 kk6.size⟩

end Go.Proofs.Ytgbgdgncdanblaa.DrE
