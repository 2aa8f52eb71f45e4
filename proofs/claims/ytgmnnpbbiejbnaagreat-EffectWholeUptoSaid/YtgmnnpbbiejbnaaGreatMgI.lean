/-
  The document's reading of a value that is a text. Conditions: as stated.
  Both decoders, whatever the bytes. Conditions: as stated.
-/
import Derived.Test.YtgmnnpbbiejbnaaGreatMgF
import Derived.Test.YtgmnnpbbiejbnaaGreatVaU
import Derived.Test.YtgmnnpbbiejbnaaGreatMgG
import Derived.Test.YtgmnnpbbiejbnaaGreatMgH
set_option maxRecDepth 100000
set_option linter.unusedSimpArgs false
set_option linter.unusedVariables false
namespace Go.Proofs.YtgmnnpbbiejbnaaGreat.VcK
open Go.RowKit Go.Proofs.YtgmnnpbbiejbnaaGreat.Mem Go.Proofs.YtgmnnpbbiejbnaaGreat.VaA Go.Proofs.YtgmnnpbbiejbnaaGreat.VaC Go.Proofs.YtgmnnpbbiejbnaaGreat.VaH Go.Proofs.YtgmnnpbbiejbnaaGreat.VaL Go.Proofs.YtgmnnpbbiejbnaaGreat.VaP Go.Proofs.YtgmnnpbbiejbnaaGreat.VaQ Go.Proofs.YtgmnnpbbiejbnaaGreat.VaS Go.Proofs.YtgmnnpbbiejbnaaGreat.VaT Go.Proofs.YtgmnnpbbiejbnaaGreat.VaU Go.Proofs.YtgmnnpbbiejbnaaGreat.VaW Go.Proofs.YtgmnnpbbiejbnaaGreat.VbA Go.Proofs.YtgmnnpbbiejbnaaGreat.VbB Go.Proofs.YtgmnnpbbiejbnaaGreat.VcV

set_option maxHeartbeats 2000000 in
theorem decR_1 (s : ByteArray) (w : World) (hs : s.size ≤ 100000000) (k0 k1 : Nat) (b0 b1 : Bool) (t : ByteArray) (h0 : rnum s 1 (0, false) = (1, (k0, b0))) (h1 : rtxt s (k0, b0) = (t, (k1, b1))) :
    Calls Tryz.prog 65 #[.string s] w (DecPost s w (decD s)) := by
  have hk0 : k0 ≤ s.size := by have h := rnum_le s 1 (0, false) (Nat.zero_le _); rwa [h0] at h
  have hk1 : k1 ≤ s.size := by have h := rtxt_le s (k0, b0) hk0; rwa [h1] at h
  have HR := Lib.hid (And.intro h0 h1)
  have hn0 := fun w' (h : Rdr 159 w' (w.heap.size + 1) s 0 false) => num_r (w.heap.size + 1) s 0 1 false w' h (Nat.zero_le _) (by omega) (by decide) (by decide) h0
  have hn1 := fun w' (h : Rdr 159 w' (w.heap.size + 1) s k0 b0) => txt_r (w.heap.size + 1) s k0 b0 w' h hk0 (by omega) h1
  clear h0 h1
  obtain ⟨W0, hW0⟩ : ∃ W0, (w.alloc (.cells #[.int .i64 0, .string ⟨#[]⟩, .slice none 0 0, .slice none 0 0, .slice none 0 0] 42)).alloc (.cells #[.string s, .int .i64 0, .bool false] 159) = W0 := ⟨_, rfl⟩
  have B0 : Below w.heap.size w W0 := by rw [← hW0]; exact ((Below.refl _ w).alloc (Nat.le_refl _) _).alloc (by simp) _
  have S0 : W0.heap.size = w.heap.size + 2 := by rw [← hW0]; simp
  have z0 : Bv W0 w.heap.size 0 ⟨#[]⟩ (.slice none 0 0) (.slice none 0 0) (.slice none 0 0) := by
    rw [← hW0]
    exact ((Only.refl (fun _ => False) (w.alloc _)).alloc _).heap (heap_alloc_new w _) id
  have r0 : Rdr 159 W0 (w.heap.size + 1) s 0 false := by
    rw [← hW0]
    have h := heap_alloc_new (w.alloc (.cells #[.int .i64 0, .string ⟨#[]⟩, .slice none 0 0, .slice none 0 0, .slice none 0 0] 42)) (.cells #[.string s, .int .i64 0, .bool false] 159)
    rw [World.size_alloc] at h
    exact h
  have H0 := Lib.hid hW0
  clear hW0
  have HS0 := Lib.hid S0
  clear S0
  go_enter Tryz.func65, Tryz.ntmps65
  go_wp2_with fail
  rw [H0.out]
  refine (hn0 W0 r0).mono ?_
  rintro e w1 ⟨rfl, r1, o1⟩
  have z1 := o1.heap z0 (by omega)
  have B1 := o1.after B0 (Nat.le_refl _) (fun b h => by omega)
  have hs1 := o1.size
  have hS := HS0.out
  have dw : Dw 159 w w1.heap.size s k0 b0 1 ⟨#[]⟩ (.slice none 0 0) (.slice none 0 0) (.slice none 0 0) (w1.alloc (.cells #[.int .i64 1, .string ⟨#[]⟩, .slice none 0 0, .slice none 0 0, .slice none 0 0] 42)) :=
    ⟨((Only.refl (fun _ => False) w1).alloc _).heap r1 id, hk0, ((Only.refl (fun _ => False) w1).alloc _).heap z1 id, heap_alloc_new w1 _, B1.alloc (by omega) _, by omega⟩
  clear r0 r1 z0 z1 o1 hn0 hS hs1 B0 B1
  go_wp2_with fail
  have hdw := dw
  obtain ⟨g, hg⟩ : ∃ g, w1.heap.size = g := ⟨_, rfl⟩
  rw [hg] at dw ⊢
  clear hdw
  generalize w1.alloc (.cells #[.int .i64 1, .string ⟨#[]⟩, .slice none 0 0, .slice none 0 0, .slice none 0 0] 42) = W1 at dw ⊢
  refine (hn1 W1 dw.rd).mono ?_
  rintro e w2 ⟨rfl, r2, o2⟩
  have d2 := (dw.read r2 hk1 o2)
  clear hn1 r2 o2 dw hg hk0
  have HD : Hid (decD s = ⟨1, t, ⟨k1, b1, [], [], []⟩⟩) := Lib.hid (by unfold decD; rw [HR.out.1]; dsimp only; rw [if_pos rfl, HR.out.2])
  clear HR
  have f1 := d2.x.free 1
  have y1 := d2.x.cells.2.1
  have D := d2.putT t
  have HDw := Lib.hid D
  have c2 := D.rd.c2
  have c1 := D.rd.c1
  obtain ⟨x0, x1, x2, x3, x4⟩ := D.x.cells
  clear D
  cases b1
  · have RV : RdV (w2.setCell ⟨g, 1, none⟩ (.string t)) ⟨1, t, none, 0, 0, [], none, 0, 0, [], none, 0, 0, []⟩ := ⟨rd_nil0 _ _, rd_nil0 _ _, rd_nil0 _ _⟩
    have hck : Calls Tryz.prog 66 #[.agg #[.int .i64 1, .string t, .slice none 0 0, .slice none 0 0, .slice none 0 0]] (w2.setCell ⟨g, 1, none⟩ (.string t)) fun e w' => e = .returned (.int .i64 (chk ⟨1, t, none, 0, 0, [], none, 0, 0, [], none, 0, 0, []⟩)) ∧ Below (w2.setCell ⟨g, 1, none⟩ (.string t)).heap.size (w2.setCell ⟨g, 1, none⟩ (.string t)) w' := checkR_calls ⟨1, t, none, 0, 0, [], none, 0, 0, [], none, 0, 0, []⟩ _ RV (Nat.zero_le _)
    have HCE : Hid (chk ⟨1, t, none, 0, 0, [], none, 0, 0, [], none, 0, 0, []⟩ = chk (bare 1 t [] [] [])) := Lib.hid rfl
    rw [HCE.out] at hck
    clear RV
    by_cases hc0 : chk (bare 1 t [] [] []) = 0
    · have HOK : Hid ((decD s).ok = true) := Lib.hid (by rw [HD.out]; unfold Dc.ok Dc.v; simp; exact hc0)
      rw [hc0] at hck
      clear hc0
      go_wp2_with fail
      refine hck.mono ?_
      rintro e w4 ⟨rfl, b4⟩
      have D4 : Dw 159 w g s k1 false 1 t (.slice none 0 0) (.slice none 0 0) (.slice none 0 0) w4 := HDw.out.grow (Only.of_below b4) (fun b hb => by have := HDw.out.gz; omega)
      clear c1 c2 x0 x1 x2 x3 x4 hck b4 f1 y1 d2
      obtain ⟨x0, x1, x2, x3, x4⟩ := D4.x.cells
      obtain ⟨z0, z1, z2, z3, z4⟩ := D4.z.cells
      have f0 := D4.z.free 0
      have f1 := D4.z.free 1
      have f2 := D4.z.free 2
      have f3 := D4.z.free 3
      have f4 := D4.z.free 4
      have c1 := D4.rd.c1
      go_wp2_with fail
      go_region_law (fail)
      all_goals (
        go_wp2_with fail
        have OF := onlyh (h := w.heap.size) (wr := w4) (.int .i64 1) (.string t) (.slice none 0 0) (.slice none 0 0) (.slice none 0 0)
        have ZF := bv_set (k' := 1) (t' := t) D4.z (.slice none 0 0) (.slice none 0 0) (.slice none 0 0)
        generalize ((((w4.setCell ⟨w.heap.size, 0, none⟩ (.int .i64 1)).setCell ⟨w.heap.size, 1, none⟩ (.string t)).setCell ⟨w.heap.size, 2, none⟩ (.slice none 0 0)).setCell ⟨w.heap.size, 3, none⟩ (.slice none 0 0)).setCell ⟨w.heap.size, 4, none⟩ (.slice none 0 0) = wF at OF ZF ⊢
        obtain ⟨t0, t1, t2, t3, t4⟩ := ZF.cells
        refine bodyPost_ret (v := .tuple #[.agg #[.int .i64 1, .string t, .slice none 0 0, .slice none 0 0, .slice none 0 0], .int .i64 k1, .int .i64 0]) (by simp [results, Tryz.f65, go_sem, t0, t1, t2, t3, t4]) rfl ?_
        exact ⟨⟨1, t, none, 0, 0, [], none, 0, 0, [], none, 0, 0, []⟩, by rw [HOK.out, HD.out]; rfl, by rw [HOK.out, HD.out]; exact ⟨rfl, rfl, rfl, rfl, rfl⟩,
          ⟨rd_nil0 _ _, rd_nil0 _ _, rd_nil0 _ _⟩, ⟨⟨nw_none _, nw_none _, nw_none _⟩, wr_none _ _ _, wr_none _ _ _, wr_none _ _ _⟩, OF.drew.after D4.b (Nat.le_refl _) (fun b h => Nat.le_of_eq h.symm)⟩)
    · have HOK : Hid ((decD s).ok = false) := Lib.hid (by rw [HD.out]; unfold Dc.ok Dc.v; simp; exact hc0)
      have hne : decide (chk (bare 1 t [] [] []) = 0) = false := by simpa using hc0
      go_wp2_with fail
      refine hck.mono ?_
      rintro e w4 ⟨rfl, b4⟩
      have D4 : Dw 159 w g s k1 false 1 t (.slice none 0 0) (.slice none 0 0) (.slice none 0 0) w4 := HDw.out.grow (Only.of_below b4) (fun b hb => by have := HDw.out.gz; omega)
      clear c1 c2 x0 x1 x2 x3 x4 hck b4 f1 y1 d2
      obtain ⟨z0, z1, z2, z3, z4⟩ := D4.z.cells
      have f0 := D4.z.free 0
      have f1 := D4.z.free 1
      have f2 := D4.z.free 2
      have f3 := D4.z.free 3
      have f4 := D4.z.free 4
      go_wp2_with fail
      have OF := onlyh (h := w.heap.size) (wr := w4) (.int .i64 0) (.string ⟨#[]⟩) (.slice none 0 0) (.slice none 0 0) (.slice none 0 0)
      have ZF := bv_set (k' := 0) (t' := ⟨#[]⟩) D4.z (.slice none 0 0) (.slice none 0 0) (.slice none 0 0)
      generalize ((((w4.setCell ⟨w.heap.size, 0, none⟩ (.int .i64 0)).setCell ⟨w.heap.size, 1, none⟩ (.string ⟨#[]⟩)).setCell ⟨w.heap.size, 2, none⟩ (.slice none 0 0)).setCell ⟨w.heap.size, 3, none⟩ (.slice none 0 0)).setCell ⟨w.heap.size, 4, none⟩ (.slice none 0 0) = wF at OF ZF ⊢
      obtain ⟨t0, t1, t2, t3, t4⟩ := ZF.cells
      exact bodyPost_ret (v := .tuple #[.agg #[.int .i64 0, .string ⟨#[]⟩, .slice none 0 0, .slice none 0 0, .slice none 0 0], .int .i64 0, .int .i64 132]) (by simp [results, Tryz.f65, go_sem, t0, t1, t2, t3, t4]) rfl (post_no HOK.out (OF.after D4.b (Nat.le_refl _) (fun b h => Nat.le_of_eq h.symm)))
  · have HOK : Hid ((decD s).ok = false) := Lib.hid (by rw [HD.out]; rfl)
    obtain ⟨z0, z1, z2, z3, z4⟩ := HDw.out.z.cells
    have g0 := HDw.out.z.free 0
    have g1 := HDw.out.z.free 1
    have g2 := HDw.out.z.free 2
    have g3 := HDw.out.z.free 3
    have g4 := HDw.out.z.free 4
    go_wp2_with fail
    all_goals (
      have OF := onlyh (h := w.heap.size) (wr := w2.setCell ⟨g, 1, none⟩ (.string t)) (.int .i64 0) (.string ⟨#[]⟩) (.slice none 0 0) (.slice none 0 0) (.slice none 0 0)
      have ZF := bv_set (k' := 0) (t' := ⟨#[]⟩) HDw.out.z (.slice none 0 0) (.slice none 0 0) (.slice none 0 0)
      generalize (((((w2.setCell ⟨g, 1, none⟩ (.string t)).setCell ⟨w.heap.size, 0, none⟩ (.int .i64 0)).setCell ⟨w.heap.size, 1, none⟩ (.string ⟨#[]⟩)).setCell ⟨w.heap.size, 2, none⟩ (.slice none 0 0)).setCell ⟨w.heap.size, 3, none⟩ (.slice none 0 0)).setCell ⟨w.heap.size, 4, none⟩ (.slice none 0 0) = wF at OF ZF ⊢
      obtain ⟨t0, t1, t2, t3, t4⟩ := ZF.cells
      exact bodyPost_ret (v := .tuple #[.agg #[.int .i64 0, .string ⟨#[]⟩, .slice none 0 0, .slice none 0 0, .slice none 0 0], .int .i64 0, .int .i64 132]) (by simp [results, Tryz.f65, go_sem, t0, t1, t2, t3, t4]) rfl (post_no HOK.out (OF.after HDw.out.b (Nat.le_refl _) (fun b h => Nat.le_of_eq h.symm))))
end Go.Proofs.YtgmnnpbbiejbnaaGreat.VcK
set_option linter.unusedSimpArgs false
set_option linter.unusedVariables false
namespace Go.Proofs.YtgmnnpbbiejbnaaGreat.VcL
open Go.RowKit Go.Proofs.YtgmnnpbbiejbnaaGreat.Mem Go.Proofs.YtgmnnpbbiejbnaaGreat.VaA Go.Proofs.YtgmnnpbbiejbnaaGreat.VaC Go.Proofs.YtgmnnpbbiejbnaaGreat.VaH Go.Proofs.YtgmnnpbbiejbnaaGreat.VaP Go.Proofs.YtgmnnpbbiejbnaaGreat.VaQ Go.Proofs.YtgmnnpbbiejbnaaGreat.VbA Go.Proofs.YtgmnnpbbiejbnaaGreat.VbB

theorem rnum_lt (s : ByteArray) (W : Nat) (p : Nat × Bool) : (rnum s W p).1 < 256 ^ W := by
  unfold rnum
  split
  · exact Nat.pow_pos (by decide)
  · refine Nat.lt_of_lt_of_le (unle_lt _) (Nat.pow_le_pow_right (by decide) ?_)
    rw [List.length_take]; exact Nat.min_le_left _ _

theorem dec_calls (s : ByteArray) (w : World) (hs : s.size ≤ 100000000) : Calls Tryz.prog 63 #[.string s] w (DecPost s w (decD s)) := by
  obtain ⟨K, k0, b0, h0⟩ : ∃ K k0 b0, rnum s 1 (0, false) = (K, (k0, b0)) := ⟨_, _, _, rfl⟩
  obtain ⟨N, k1, b1, h1⟩ : ∃ N k1 b1, rnum s 4 (k0, b0) = (N, (k1, b1)) := ⟨_, _, _, rfl⟩
  have hK := rnum_lt s 1 (0, false)
  have hN := rnum_lt s 4 (k0, b0)
  rw [h0] at hK
  rw [h1] at hN
  simp only [Nat.pow_one, show (256 : Nat) ^ 4 = 4294967296 from rfl] at hK hN
  by_cases e1 : K = 1
  · subst e1
    obtain ⟨t, k2, b2, h2⟩ : ∃ t k2 b2, rtxt s (k0, b0) = (t, (k2, b2)) := ⟨_, _, _, rfl⟩
    exact VbD.dec_1 s w hs _ _ _ _ _ h0 h2
  by_cases e2 : K = 2
  · subst e2; exact VcA.dec_2 s w hs _ _ _ _ _ h0 h1 (by omega)
  by_cases e4 : K = 4
  · subst e4; exact VcB.dec_4 s w hs _ _ _ _ _ h0 h1 (by omega)
  by_cases e3 : K = 3
  · subst e3; exact VcC.dec_3 s w hs _ _ _ _ _ h0 h1 (by omega)
  by_cases e5 : K = 5
  · subst e5; exact VcD.dec_5 s w hs _ _ _ _ _ h0 h1 (by omega)
  exact VcE.dec_0 s w hs K ⟨e1, e2, e3, e4, e5⟩ (by omega) _ _ _ _ _ h0 h1 (by omega)
theorem decR_calls (s : ByteArray) (w : World) (hs : s.size ≤ 100000000) : Calls Tryz.prog 65 #[.string s] w (DecPost s w (decD s)) := by
  obtain ⟨K, k0, b0, h0⟩ : ∃ K k0 b0, rnum s 1 (0, false) = (K, (k0, b0)) := ⟨_, _, _, rfl⟩
  obtain ⟨N, k1, b1, h1⟩ : ∃ N k1 b1, rnum s 4 (k0, b0) = (N, (k1, b1)) := ⟨_, _, _, rfl⟩
  have hK := rnum_lt s 1 (0, false)
  have hN := rnum_lt s 4 (k0, b0)
  rw [h0] at hK
  rw [h1] at hN
  simp only [Nat.pow_one, show (256 : Nat) ^ 4 = 4294967296 from rfl] at hK hN
  by_cases e1 : K = 1
  · subst e1
    obtain ⟨t, k2, b2, h2⟩ : ∃ t k2 b2, rtxt s (k0, b0) = (t, (k2, b2)) := ⟨_, _, _, rfl⟩
    exact VcK.decR_1 s w hs _ _ _ _ _ h0 h2
  by_cases e2 : K = 2
  · subst e2; exact VcF.decR_2 s w hs _ _ _ _ _ h0 h1 (by omega)
  by_cases e4 : K = 4
  · subst e4; exact VcG.decR_4 s w hs _ _ _ _ _ h0 h1 (by omega)
  by_cases e3 : K = 3
  · subst e3; exact VcH.decR_3 s w hs _ _ _ _ _ h0 h1 (by omega)
  by_cases e5 : K = 5
  · subst e5; exact VcI.decR_5 s w hs _ _ _ _ _ h0 h1 (by omega)
  exact VcJ.decR_0 s w hs K ⟨e1, e2, e3, e4, e5⟩ (by omega) _ _ _ _ _ h0 h1 (by omega)
end Go.Proofs.YtgmnnpbbiejbnaaGreat.VcL
