/-
  The document's reading of a value of kind 2. Conditions: as stated.
  The document's reading of a value of kind 4. Conditions: as stated.
  The document's reading of a value of kind 3. Conditions: as stated.
  The document's reading of a value of kind 5. Conditions: as stated.
  The document's reading of a value of kind that is none. Conditions: as stated.
-/
import Derived.Test.YtgmnnpbbiejbnaaGreatMgF
import Derived.Test.YtgmnnpbbiejbnaaGreatVaU
set_option maxRecDepth 100000
set_option linter.unusedSimpArgs false
set_option linter.unusedVariables false
namespace Go.Proofs.YtgmnnpbbiejbnaaGreat.VcF
open Go.RowKit Go.Proofs.YtgmnnpbbiejbnaaGreat.Mem Go.Proofs.YtgmnnpbbiejbnaaGreat.VaA Go.Proofs.YtgmnnpbbiejbnaaGreat.VaC Go.Proofs.YtgmnnpbbiejbnaaGreat.VaH Go.Proofs.YtgmnnpbbiejbnaaGreat.VaL Go.Proofs.YtgmnnpbbiejbnaaGreat.VaP Go.Proofs.YtgmnnpbbiejbnaaGreat.VaQ Go.Proofs.YtgmnnpbbiejbnaaGreat.VaS Go.Proofs.YtgmnnpbbiejbnaaGreat.VaT Go.Proofs.YtgmnnpbbiejbnaaGreat.VaU Go.Proofs.YtgmnnpbbiejbnaaGreat.VaW Go.Proofs.YtgmnnpbbiejbnaaGreat.VbA Go.Proofs.YtgmnnpbbiejbnaaGreat.VbB Go.Proofs.YtgmnnpbbiejbnaaGreat.VcV

set_option maxHeartbeats 4000000 in
theorem decR_2 (s : ByteArray) (w : World) (hs : s.size ≤ 100000000) (k0 k1 N : Nat) (b0 b1 : Bool) (h0 : rnum s 1 (0, false) = (2, (k0, b0))) (h1 : rnum s 4 (k0, b0) = (N, (k1, b1))) (hN : N ≤ 4294967295) :
    Calls Tryz.prog 65 #[.string s] w (DecPost s w (decD s)) := by
  have hk0 : k0 ≤ s.size := by have h := rnum_le s 1 (0, false) (Nat.zero_le _); rwa [h0] at h
  have hk1 : k1 ≤ s.size := by have h := rnum_le s 4 (k0, b0) hk0; rwa [h1] at h
  have HR := Lib.hid (And.intro h0 h1)
  have hn0 := fun w' (h : Rdr 159 w' (w.heap.size + 1) s 0 false) => num_r (w.heap.size + 1) s 0 1 false w' h (Nat.zero_le _) (by omega) (by decide) (by decide) h0
  have hn1 := fun w' (h : Rdr 159 w' (w.heap.size + 1) s k0 b0) => num_r (w.heap.size + 1) s k0 4 b0 w' h hk0 (by omega) (by decide) (by decide) h1
  clear h0 h1
  obtain ⟨W0, hW0⟩ : ∃ W0, (w.alloc (.cells #[.int .i64 0, .string ⟨#[]⟩, .slice none 0 0, .slice none 0 0, .slice none 0 0] 42)).alloc (.cells #[.string s, .int .i64 0, .bool false] 159) = W0 := ⟨_, rfl⟩
  have B0 : Below w.heap.size w W0 := by rw [← hW0]; exact ((Below.refl _ w).alloc (Nat.le_refl _) _).alloc (by simp) _
  have S0 : W0.heap.size = w.heap.size + 2 := by rw [← hW0]; simp
  have z0 : Bv W0 w.heap.size 0 ⟨#[]⟩ (.slice none 0 0) (.slice none 0 0) (.slice none 0 0) := by
    rw [← hW0]
    exact ((Only.refl (fun _ => False) (w.alloc _)).alloc _).heap (heap_alloc_new w _) id
  have r0 : Rdr 159 W0 (w.heap.size + 1) s 0 false := by
    rw [← hW0]
    have h := heap_alloc_new (w.alloc (.cells #[.int .i64 0, .string ⟨#[]⟩, .slice none 0 0, .slice none 0 0, .slice none 0 0] 42)) (.cells #[.string s, .int .i64 0, .bool false] 159)
    rw [World.size_alloc] at h
    exact h
  have H0 := Lib.hid hW0
  clear hW0
  have HS0 := Lib.hid S0
  clear S0
  go_enter Tryz.func65, Tryz.ntmps65
  go_wp2_with fail
  rw [H0.out]
  refine (hn0 W0 r0).mono ?_
  rintro e w1 ⟨rfl, r1, o1⟩
  have z1 := o1.heap z0 (by omega)
  have B1 := o1.after B0 (Nat.le_refl _) (fun b h => by omega)
  have hs1 := o1.size
  have hS := HS0.out
  have dw : Dw 159 w w1.heap.size s k0 b0 2 ⟨#[]⟩ (.slice none 0 0) (.slice none 0 0) (.slice none 0 0) (w1.alloc (.cells #[.int .i64 2, .string ⟨#[]⟩, .slice none 0 0, .slice none 0 0, .slice none 0 0] 42)) :=
    ⟨((Only.refl (fun _ => False) w1).alloc _).heap r1 id, hk0, ((Only.refl (fun _ => False) w1).alloc _).heap z1 id, heap_alloc_new w1 _, B1.alloc (by omega) _, by omega⟩
  clear r0 r1 z0 z1 o1 hn0 hS hs1 B0 B1
  go_wp2_with fail
  have hdw := dw
  obtain ⟨g, hg⟩ : ∃ g, w1.heap.size = g := ⟨_, rfl⟩
  rw [hg] at dw ⊢
  clear hdw
  generalize w1.alloc (.cells #[.int .i64 2, .string ⟨#[]⟩, .slice none 0 0, .slice none 0 0, .slice none 0 0] 42) = W1 at dw ⊢
  refine (hn1 W1 dw.rd).mono ?_
  rintro e w2 ⟨rfl, r2, o2⟩
  have d2 := dw.read r2 hk1 o2
  clear hn1 r2 o2 dw hg hk0
  have HD : Hid (decD s = ⟨2, ⟨#[]⟩, rdN s 2 N ⟨k1, b1, [], [], []⟩⟩) := Lib.hid (by unfold decD; rw [HR.out.1]; dsimp only; rw [if_neg (by decide), HR.out.2])
  clear HR 
  go_wp2_with fail
  go_loopw [8] (fun n wr => ∃ m st A ln c, n = .int .u64 ((N - m : Nat) : Int) ∧ m ≤ N ∧ rdN s 2 m st = rdN s 2 N ⟨k1, b1, [], [], []⟩ ∧ (st.f = [] ∧ st.r = [] ∧ st.l.length = ln ∧ (st.bad = false → ln * 4 ≤ st.k)) ∧ Dw 159 w g s st.k st.bad 2 ⟨#[]⟩ (.slice A ln c) (.slice none 0 0) (.slice none 0 0) wr ∧ wr.ownsRow (g + 1) 9 1 (.slice A ln c) ln (strs st.l)) (fun n _ => N - (intOf n).toNat)
  case atStart => exact ⟨N, _, none, 0, 0, by simp, Nat.le_refl _, rfl, ⟨rfl, rfl, rfl, fun _ => Nat.zero_le _⟩, d2, World.ownsRow_nil _ _ _ _⟩
  case round =>
    obtain ⟨m, ⟨k, bad, l, f, r⟩, A, ln, c, rfl, hm, hN', ⟨ho1, ho2, hl, hcnt⟩, D, O⟩ := hrel
    dsimp only at ho1 ho2 hl hcnt D O
    subst ho1 ho2
    have HN := Lib.hid hN'
    have HC := Lib.hid (And.intro hl hcnt)
    clear hN' hl hcnt d2
    have c0 := D.rd.c0
    have c1 := D.rd.c1
    have c2 := D.rd.c2
    cases bad
    · rcases Nat.eq_zero_or_pos m with rfl | hpos
      · have HK : Hid (decD s = ⟨2, ⟨#[]⟩, ⟨k, false, l, [], []⟩⟩) := Lib.hid (by rw [HD.out, ← HN.out]; rfl)
        have RL : Rd wr 1 A ln c (strs l) := Rd.of_own O
        have RV : RdV wr ⟨2, ⟨#[]⟩, A, ln, c, l, none, 0, 0, [], none, 0, 0, []⟩ := ⟨RL, rd_nil0 _ _, rd_nil0 _ _⟩
        have HC4 : Hid (ln * 4 ≤ k) := Lib.hid (HC.out.2 rfl)
        have hln : ln ≤ 100000000 := by have := HC4.out; have := D.hk; omega
        have hck : Calls Tryz.prog 66 #[.agg #[.int .i64 2, .string ⟨#[]⟩, .slice A ln c, .slice none 0 0, .slice none 0 0]] wr fun e w' => e = .returned (.int .i64 (chk ⟨2, ⟨#[]⟩, A, ln, c, l, none, 0, 0, [], none, 0, 0, []⟩)) ∧ Below wr.heap.size wr w' := checkR_calls ⟨2, ⟨#[]⟩, A, ln, c, l, none, 0, 0, [], none, 0, 0, []⟩ wr RV (Nat.zero_le _)
        have HCE : Hid (chk ⟨2, ⟨#[]⟩, A, ln, c, l, none, 0, 0, [], none, 0, 0, []⟩ = chk (bare 2 ⟨#[]⟩ l [] [])) := Lib.hid (by rw [← HC.out.1]; rfl)
        rw [HCE.out] at hck
        obtain ⟨x0, x1, x2, x3, x4⟩ := D.x.cells
        have hcnd : decide (((N - 0 : Nat) : Int) < (N : Int)) = false := by simp
        by_cases hc0 : chk (bare 2 ⟨#[]⟩ l [] []) = 0
        · have HOK : Hid ((decD s).ok = true) := Lib.hid (by rw [HK.out]; unfold Dc.ok Dc.v; simp; exact hc0)
          rw [hc0] at hck
          clear hc0
          go_wp2_with fail
          refine hck.mono ?_
          rintro e w4 ⟨rfl, b4⟩
          have D4 : Dw 159 w g s k false 2 ⟨#[]⟩ (.slice A ln c) (.slice none 0 0) (.slice none 0 0) w4 := D.grow (Only.of_below b4) (fun b hb => by have := D.gz; omega)
          have R4 := RV.below b4
          have W4 := (wr_own O).below b4
          clear c0 c1 c2 x0 x1 x2 x3 x4 hck RL RV b4
          obtain ⟨x0, x1, x2, x3, x4⟩ := D4.x.cells
          obtain ⟨z0, z1, z2, z3, z4⟩ := D4.z.cells
          have f0 := D4.z.free 0
          have f1 := D4.z.free 1
          have f2 := D4.z.free 2
          have f3 := D4.z.free 3
          have f4 := D4.z.free 4
          have c1 := D4.rd.c1
          go_wp2_with fail
          have NA := nw_own O
          go_region_law (fail)
          all_goals (
            go_wp2_with fail
            have OF := onlyh (h := w.heap.size) (wr := w4) (.int .i64 2) (.string ⟨#[]⟩) (.slice A ln c) (.slice none 0 0) (.slice none 0 0)
            have ZF := bv_set (k' := 2) (t' := ⟨#[]⟩) D4.z (.slice A ln c) (.slice none 0 0) (.slice none 0 0)
            generalize ((((w4.setCell ⟨w.heap.size, 0, none⟩ (.int .i64 2)).setCell ⟨w.heap.size, 1, none⟩ (.string ⟨#[]⟩)).setCell ⟨w.heap.size, 2, none⟩ (.slice A ln c)).setCell ⟨w.heap.size, 3, none⟩ (.slice none 0 0)).setCell ⟨w.heap.size, 4, none⟩ (.slice none 0 0) = wF at OF ZF ⊢
            obtain ⟨t0, t1, t2, t3, t4⟩ := ZF.cells
            refine bodyPost_ret (v := .tuple #[.agg #[.int .i64 2, .string ⟨#[]⟩, .slice A ln c, .slice none 0 0, .slice none 0 0], .int .i64 k, .int .i64 0]) (by simp [results, Tryz.f65, go_sem, t0, t1, t2, t3, t4]) rfl ?_
            exact ⟨⟨2, ⟨#[]⟩, A, ln, c, l, none, 0, 0, [], none, 0, 0, []⟩, by rw [HOK.out, HK.out]; rfl, by rw [HOK.out, HK.out]; exact ⟨rfl, rfl, rfl, rfl, rfl⟩,
              ⟨R4.l.only OF.drew (fun ad e => by have := NA ad e; have := D4.hg; omega), rd_nil0 _ _, rd_nil0 _ _⟩, ⟨⟨fun ad e => by have := NA ad e; have := D4.hg; omega, nw_none _, nw_none _⟩, W4.only OF.drew (fun ad e => by have := NA ad e; have := D4.hg; omega), wr_none _ _ _, wr_none _ _ _⟩, OF.drew.after D4.b (Nat.le_refl _) (fun b h => Nat.le_of_eq h.symm)⟩)
        · have HOK : Hid ((decD s).ok = false) := Lib.hid (by rw [HK.out]; unfold Dc.ok Dc.v; simp; exact hc0)
          have hne : decide (chk (bare 2 ⟨#[]⟩ l [] []) = 0) = false := by simpa using hc0
          go_wp2_with fail
          refine hck.mono ?_
          rintro e w4 ⟨rfl, b4⟩
          have D4 : Dw 159 w g s k false 2 ⟨#[]⟩ (.slice A ln c) (.slice none 0 0) (.slice none 0 0) w4 := D.grow (Only.of_below b4) (fun b hb => by have := D.gz; omega)
          clear c0 c1 c2 x0 x1 x2 x3 x4 hck RL RV b4
          obtain ⟨z0, z1, z2, z3, z4⟩ := D4.z.cells
          have f0 := D4.z.free 0
          have f1 := D4.z.free 1
          have f2 := D4.z.free 2
          have f3 := D4.z.free 3
          have f4 := D4.z.free 4
          go_wp2_with fail
          have OF := onlyh (h := w.heap.size) (wr := w4) (.int .i64 0) (.string ⟨#[]⟩) (.slice none 0 0) (.slice none 0 0) (.slice none 0 0)
          have ZF := bv_set (k' := 0) (t' := ⟨#[]⟩) D4.z (.slice none 0 0) (.slice none 0 0) (.slice none 0 0)
          generalize ((((w4.setCell ⟨w.heap.size, 0, none⟩ (.int .i64 0)).setCell ⟨w.heap.size, 1, none⟩ (.string ⟨#[]⟩)).setCell ⟨w.heap.size, 2, none⟩ (.slice none 0 0)).setCell ⟨w.heap.size, 3, none⟩ (.slice none 0 0)).setCell ⟨w.heap.size, 4, none⟩ (.slice none 0 0) = wF at OF ZF ⊢
          obtain ⟨t0, t1, t2, t3, t4⟩ := ZF.cells
          exact bodyPost_ret (v := .tuple #[.agg #[.int .i64 0, .string ⟨#[]⟩, .slice none 0 0, .slice none 0 0, .slice none 0 0], .int .i64 0, .int .i64 132]) (by simp [results, Tryz.f65, go_sem, t0, t1, t2, t3, t4]) rfl (post_no HOK.out (OF.after D4.b (Nat.le_refl _) (fun b h => Nat.le_of_eq h.symm)))
      · obtain ⟨m', rfl⟩ : ∃ m', m = m' + 1 := ⟨m - 1, by omega⟩
        have HC4 : Hid (ln * 4 ≤ k) := Lib.hid (HC.out.2 rfl)
        have hln : ln ≤ 100000000 := by have := HC4.out; have := D.hk; omega
        obtain ⟨i, hi⟩ : ∃ i, N - (m' + 1) = i := ⟨_, rfl⟩
        have hiN : i < N := by omega
        have hie : N - m' = i + 1 := by omega
        rw [hi]
        have HI := Lib.hid (And.intro hi hie)
        clear hi hie
        have hmi : (i : Int) < (N : Int) := by omega
        have hm2 : (i : Int) ≤ 4294967295 := by omega
        have hnb : (N : Int) ≤ 4294967295 := by omega
        obtain ⟨t, k2, b2, ht⟩ : ∃ t k2 b2, rtxt s (k, false) = (t, (k2, b2)) := ⟨_, _, _, rfl⟩
        have hk2 : k2 ≤ s.size := by have h := rtxt_le s (k, false) D.hk; rwa [ht] at h
        have htx := fun w' (h : Rdr 159 w' (w.heap.size + 1) s k false) => txt_r (w.heap.size + 1) s k false w' h D.hk (by omega) ht
        have HT := Lib.hid ht
        clear ht
        have x0 := D.x.cells.1
        have x2 := D.x.cells.2.2.1
        have hgz := D.gz
        go_wp2_with fail
        go_region_law (first
          | (refine step_enter rfl 91 #[.pointer (some ⟨w.heap.size + 1, 0, none⟩)] (by simp [go_sem, execOp, resolve, invoke]) ?_; refine (htx _ D.drew.rd).mono ?_; rintro e w5 ⟨rfl, R5, O5⟩; refine ⟨_, rfl, ?_⟩; have D5 := D.drew.read R5 hk2 O5; have o5 := own_nB O.drew O5 (by have := D.hg; omega); have e5 := D5.x.cells.2.2.1; have d5 := cell_al e5 (.cells #[.string t] 9))
          | (refine step_of_list rfl ?_; refine wpList_app1 (w := w5) rfl (.tmp 47) (.tmp 50) elS rfl (g + 1) (.slice A ln c) ln (strs l) rfl o5 (.string t) rfl rfl (by unfold maxLen; omega) (by omega) (D5.gz) ?_; intro v' w6 q1 q2 q3; refine ⟨rfl, ?_⟩; have D6 := D5.grow q2 (own_bl o5); obtain ⟨b, c', rfl, hc', hb⟩ := own_pos q1; have u2 := D6.x.free 2; have u4 := D6.x.cells.2.2.1))
        all_goals (
          go_wp2_with fail
          have O7 := own_nB q1 (onlyg (g := g) 2 (.slice (some ⟨b, 0, none⟩) (ln + 1) c')) (Nat.lt_succ_self g)
          refine ⟨⟨m', ⟨k2, b2, l ++ [t], [], []⟩, some ⟨b, 0, none⟩, ln + 1, c', by rw [HI.out.2]; simp, by omega, rdN_step (by unfold rd1; rw [if_pos (.inl rfl)]; dsimp only; rw [HT.out]) HN.out, ⟨rfl, rfl, by simp [HC.out.1], fun hb => ?_⟩, D6.putL _, by simpa [strs] using O7⟩, by simp [intOf]; omega⟩
          have hg := rtxt_grow s (k, false) (by rw [HT.out]; exact hb)
          rw [HT.out] at hg
          have := HC4.out
          have h1 := hg.1
          dsimp only at h1
          show (ln + 1) * 4 ≤ k2
          omega)
    · have HOK : Hid ((decD s).ok = false) := Lib.hid (by rw [HD.out, ← HN.out, rdN_bad rfl]; rfl)
      obtain ⟨z0, z1, z2, z3, z4⟩ := D.z.cells
      have f0 := D.z.free 0
      have f1 := D.z.free 1
      have f2 := D.z.free 2
      have f3 := D.z.free 3
      have f4 := D.z.free 4
      have OF := onlyh (h := w.heap.size) (wr := wr) (.int .i64 0) (.string ⟨#[]⟩) (.slice none 0 0) (.slice none 0 0) (.slice none 0 0)
      have ZF := bv_set (k' := 0) (t' := ⟨#[]⟩) D.z (.slice none 0 0) (.slice none 0 0) (.slice none 0 0)
      obtain ⟨t0, t1, t2, t3, t4⟩ := ZF.cells
      have HF := Lib.hid (And.intro OF (And.intro ZF (And.intro t0 (And.intro t1 (And.intro t2 (And.intro t3 t4))))))
      clear OF ZF t0 t1 t2 t3 t4
      obtain ⟨i, hi⟩ : ∃ i, N - m = i := ⟨_, rfl⟩
      have hiN : (i : Int) ≤ (N : Int) := by omega
      have hnb : (N : Int) ≤ 4294967295 := by omega
      rw [hi]
      clear hi
      go_wp2_with fail
      all_goals (
        obtain ⟨OF, ZF, -⟩ := HF.out
        generalize ((((wr.setCell ⟨w.heap.size, 0, none⟩ (.int .i64 0)).setCell ⟨w.heap.size, 1, none⟩ (.string ⟨#[]⟩)).setCell ⟨w.heap.size, 2, none⟩ (.slice none 0 0)).setCell ⟨w.heap.size, 3, none⟩ (.slice none 0 0)).setCell ⟨w.heap.size, 4, none⟩ (.slice none 0 0) = wF at OF ZF ⊢
        obtain ⟨t0, t1, t2, t3, t4⟩ := ZF.cells
        exact bodyPost_ret (v := .tuple #[.agg #[.int .i64 0, .string ⟨#[]⟩, .slice none 0 0, .slice none 0 0, .slice none 0 0], .int .i64 0, .int .i64 132]) (by simp [results, Tryz.f65, go_sem, t0, t1, t2, t3, t4]) rfl (post_no HOK.out (OF.after D.b (Nat.le_refl _) (fun b h => Nat.le_of_eq h.symm))))
end Go.Proofs.YtgmnnpbbiejbnaaGreat.VcF
set_option maxRecDepth 100000
set_option linter.unusedSimpArgs false
set_option linter.unusedVariables false
namespace Go.Proofs.YtgmnnpbbiejbnaaGreat.VcG
open Go.RowKit Go.Proofs.YtgmnnpbbiejbnaaGreat.Mem Go.Proofs.YtgmnnpbbiejbnaaGreat.VaA Go.Proofs.YtgmnnpbbiejbnaaGreat.VaC Go.Proofs.YtgmnnpbbiejbnaaGreat.VaH Go.Proofs.YtgmnnpbbiejbnaaGreat.VaL Go.Proofs.YtgmnnpbbiejbnaaGreat.VaP Go.Proofs.YtgmnnpbbiejbnaaGreat.VaQ Go.Proofs.YtgmnnpbbiejbnaaGreat.VaS Go.Proofs.YtgmnnpbbiejbnaaGreat.VaT Go.Proofs.YtgmnnpbbiejbnaaGreat.VaU Go.Proofs.YtgmnnpbbiejbnaaGreat.VaW Go.Proofs.YtgmnnpbbiejbnaaGreat.VbA Go.Proofs.YtgmnnpbbiejbnaaGreat.VbB Go.Proofs.YtgmnnpbbiejbnaaGreat.VcV

set_option maxHeartbeats 4000000 in
theorem decR_4 (s : ByteArray) (w : World) (hs : s.size ≤ 100000000) (k0 k1 N : Nat) (b0 b1 : Bool) (h0 : rnum s 1 (0, false) = (4, (k0, b0))) (h1 : rnum s 4 (k0, b0) = (N, (k1, b1))) (hN : N ≤ 4294967295) :
    Calls Tryz.prog 65 #[.string s] w (DecPost s w (decD s)) := by
  have hk0 : k0 ≤ s.size := by have h := rnum_le s 1 (0, false) (Nat.zero_le _); rwa [h0] at h
  have hk1 : k1 ≤ s.size := by have h := rnum_le s 4 (k0, b0) hk0; rwa [h1] at h
  have HR := Lib.hid (And.intro h0 h1)
  have hn0 := fun w' (h : Rdr 159 w' (w.heap.size + 1) s 0 false) => num_r (w.heap.size + 1) s 0 1 false w' h (Nat.zero_le _) (by omega) (by decide) (by decide) h0
  have hn1 := fun w' (h : Rdr 159 w' (w.heap.size + 1) s k0 b0) => num_r (w.heap.size + 1) s k0 4 b0 w' h hk0 (by omega) (by decide) (by decide) h1
  clear h0 h1
  obtain ⟨W0, hW0⟩ : ∃ W0, (w.alloc (.cells #[.int .i64 0, .string ⟨#[]⟩, .slice none 0 0, .slice none 0 0, .slice none 0 0] 42)).alloc (.cells #[.string s, .int .i64 0, .bool false] 159) = W0 := ⟨_, rfl⟩
  have B0 : Below w.heap.size w W0 := by rw [← hW0]; exact ((Below.refl _ w).alloc (Nat.le_refl _) _).alloc (by simp) _
  have S0 : W0.heap.size = w.heap.size + 2 := by rw [← hW0]; simp
  have z0 : Bv W0 w.heap.size 0 ⟨#[]⟩ (.slice none 0 0) (.slice none 0 0) (.slice none 0 0) := by
    rw [← hW0]
    exact ((Only.refl (fun _ => False) (w.alloc _)).alloc _).heap (heap_alloc_new w _) id
  have r0 : Rdr 159 W0 (w.heap.size + 1) s 0 false := by
    rw [← hW0]
    have h := heap_alloc_new (w.alloc (.cells #[.int .i64 0, .string ⟨#[]⟩, .slice none 0 0, .slice none 0 0, .slice none 0 0] 42)) (.cells #[.string s, .int .i64 0, .bool false] 159)
    rw [World.size_alloc] at h
    exact h
  have H0 := Lib.hid hW0
  clear hW0
  have HS0 := Lib.hid S0
  clear S0
  go_enter Tryz.func65, Tryz.ntmps65
  go_wp2_with fail
  rw [H0.out]
  refine (hn0 W0 r0).mono ?_
  rintro e w1 ⟨rfl, r1, o1⟩
  have z1 := o1.heap z0 (by omega)
  have B1 := o1.after B0 (Nat.le_refl _) (fun b h => by omega)
  have hs1 := o1.size
  have hS := HS0.out
  have dw : Dw 159 w w1.heap.size s k0 b0 4 ⟨#[]⟩ (.slice none 0 0) (.slice none 0 0) (.slice none 0 0) (w1.alloc (.cells #[.int .i64 4, .string ⟨#[]⟩, .slice none 0 0, .slice none 0 0, .slice none 0 0] 42)) :=
    ⟨((Only.refl (fun _ => False) w1).alloc _).heap r1 id, hk0, ((Only.refl (fun _ => False) w1).alloc _).heap z1 id, heap_alloc_new w1 _, B1.alloc (by omega) _, by omega⟩
  clear r0 r1 z0 z1 o1 hn0 hS hs1 B0 B1
  go_wp2_with fail
  have hdw := dw
  obtain ⟨g, hg⟩ : ∃ g, w1.heap.size = g := ⟨_, rfl⟩
  rw [hg] at dw ⊢
  clear hdw
  generalize w1.alloc (.cells #[.int .i64 4, .string ⟨#[]⟩, .slice none 0 0, .slice none 0 0, .slice none 0 0] 42) = W1 at dw ⊢
  refine (hn1 W1 dw.rd).mono ?_
  rintro e w2 ⟨rfl, r2, o2⟩
  have d2 := dw.read r2 hk1 o2
  clear hn1 r2 o2 dw hg hk0
  have HD : Hid (decD s = ⟨4, ⟨#[]⟩, rdN s 4 N ⟨k1, b1, [], [], []⟩⟩) := Lib.hid (by unfold decD; rw [HR.out.1]; dsimp only; rw [if_neg (by decide), HR.out.2])
  clear HR 
  go_wp2_with fail
  go_loopw [8] (fun n wr => ∃ m st A ln c, n = .int .u64 ((N - m : Nat) : Int) ∧ m ≤ N ∧ rdN s 4 m st = rdN s 4 N ⟨k1, b1, [], [], []⟩ ∧ (st.f = [] ∧ st.r = [] ∧ st.l.length = ln ∧ (st.bad = false → ln * 4 ≤ st.k)) ∧ Dw 159 w g s st.k st.bad 4 ⟨#[]⟩ (.slice A ln c) (.slice none 0 0) (.slice none 0 0) wr ∧ wr.ownsRow (g + 1) 9 1 (.slice A ln c) ln (strs st.l)) (fun n _ => N - (intOf n).toNat)
  case atStart => exact ⟨N, _, none, 0, 0, by simp, Nat.le_refl _, rfl, ⟨rfl, rfl, rfl, fun _ => Nat.zero_le _⟩, d2, World.ownsRow_nil _ _ _ _⟩
  case round =>
    obtain ⟨m, ⟨k, bad, l, f, r⟩, A, ln, c, rfl, hm, hN', ⟨ho1, ho2, hl, hcnt⟩, D, O⟩ := hrel
    dsimp only at ho1 ho2 hl hcnt D O
    subst ho1 ho2
    have HN := Lib.hid hN'
    have HC := Lib.hid (And.intro hl hcnt)
    clear hN' hl hcnt d2
    have c0 := D.rd.c0
    have c1 := D.rd.c1
    have c2 := D.rd.c2
    cases bad
    · rcases Nat.eq_zero_or_pos m with rfl | hpos
      · have HK : Hid (decD s = ⟨4, ⟨#[]⟩, ⟨k, false, l, [], []⟩⟩) := Lib.hid (by rw [HD.out, ← HN.out]; rfl)
        have RL : Rd wr 1 A ln c (strs l) := Rd.of_own O
        have RV : RdV wr ⟨4, ⟨#[]⟩, A, ln, c, l, none, 0, 0, [], none, 0, 0, []⟩ := ⟨RL, rd_nil0 _ _, rd_nil0 _ _⟩
        have HC4 : Hid (ln * 4 ≤ k) := Lib.hid (HC.out.2 rfl)
        have hln : ln ≤ 100000000 := by have := HC4.out; have := D.hk; omega
        have hck : Calls Tryz.prog 66 #[.agg #[.int .i64 4, .string ⟨#[]⟩, .slice A ln c, .slice none 0 0, .slice none 0 0]] wr fun e w' => e = .returned (.int .i64 (chk ⟨4, ⟨#[]⟩, A, ln, c, l, none, 0, 0, [], none, 0, 0, []⟩)) ∧ Below wr.heap.size wr w' := checkR_calls ⟨4, ⟨#[]⟩, A, ln, c, l, none, 0, 0, [], none, 0, 0, []⟩ wr RV (Nat.zero_le _)
        have HCE : Hid (chk ⟨4, ⟨#[]⟩, A, ln, c, l, none, 0, 0, [], none, 0, 0, []⟩ = chk (bare 4 ⟨#[]⟩ l [] [])) := Lib.hid (by rw [← HC.out.1]; rfl)
        rw [HCE.out] at hck
        obtain ⟨x0, x1, x2, x3, x4⟩ := D.x.cells
        have hcnd : decide (((N - 0 : Nat) : Int) < (N : Int)) = false := by simp
        by_cases hc0 : chk (bare 4 ⟨#[]⟩ l [] []) = 0
        · have HOK : Hid ((decD s).ok = true) := Lib.hid (by rw [HK.out]; unfold Dc.ok Dc.v; simp; exact hc0)
          rw [hc0] at hck
          clear hc0
          go_wp2_with fail
          refine hck.mono ?_
          rintro e w4 ⟨rfl, b4⟩
          have D4 : Dw 159 w g s k false 4 ⟨#[]⟩ (.slice A ln c) (.slice none 0 0) (.slice none 0 0) w4 := D.grow (Only.of_below b4) (fun b hb => by have := D.gz; omega)
          have R4 := RV.below b4
          have W4 := (wr_own O).below b4
          clear c0 c1 c2 x0 x1 x2 x3 x4 hck RL RV b4
          obtain ⟨x0, x1, x2, x3, x4⟩ := D4.x.cells
          obtain ⟨z0, z1, z2, z3, z4⟩ := D4.z.cells
          have f0 := D4.z.free 0
          have f1 := D4.z.free 1
          have f2 := D4.z.free 2
          have f3 := D4.z.free 3
          have f4 := D4.z.free 4
          have c1 := D4.rd.c1
          go_wp2_with fail
          have NA := nw_own O
          go_region_law (fail)
          all_goals (
            go_wp2_with fail
            have OF := onlyh (h := w.heap.size) (wr := w4) (.int .i64 4) (.string ⟨#[]⟩) (.slice A ln c) (.slice none 0 0) (.slice none 0 0)
            have ZF := bv_set (k' := 4) (t' := ⟨#[]⟩) D4.z (.slice A ln c) (.slice none 0 0) (.slice none 0 0)
            generalize ((((w4.setCell ⟨w.heap.size, 0, none⟩ (.int .i64 4)).setCell ⟨w.heap.size, 1, none⟩ (.string ⟨#[]⟩)).setCell ⟨w.heap.size, 2, none⟩ (.slice A ln c)).setCell ⟨w.heap.size, 3, none⟩ (.slice none 0 0)).setCell ⟨w.heap.size, 4, none⟩ (.slice none 0 0) = wF at OF ZF ⊢
            obtain ⟨t0, t1, t2, t3, t4⟩ := ZF.cells
            refine bodyPost_ret (v := .tuple #[.agg #[.int .i64 4, .string ⟨#[]⟩, .slice A ln c, .slice none 0 0, .slice none 0 0], .int .i64 k, .int .i64 0]) (by simp [results, Tryz.f65, go_sem, t0, t1, t2, t3, t4]) rfl ?_
            exact ⟨⟨4, ⟨#[]⟩, A, ln, c, l, none, 0, 0, [], none, 0, 0, []⟩, by rw [HOK.out, HK.out]; rfl, by rw [HOK.out, HK.out]; exact ⟨rfl, rfl, rfl, rfl, rfl⟩,
              ⟨R4.l.only OF.drew (fun ad e => by have := NA ad e; have := D4.hg; omega), rd_nil0 _ _, rd_nil0 _ _⟩, ⟨⟨fun ad e => by have := NA ad e; have := D4.hg; omega, nw_none _, nw_none _⟩, W4.only OF.drew (fun ad e => by have := NA ad e; have := D4.hg; omega), wr_none _ _ _, wr_none _ _ _⟩, OF.drew.after D4.b (Nat.le_refl _) (fun b h => Nat.le_of_eq h.symm)⟩)
        · have HOK : Hid ((decD s).ok = false) := Lib.hid (by rw [HK.out]; unfold Dc.ok Dc.v; simp; exact hc0)
          have hne : decide (chk (bare 4 ⟨#[]⟩ l [] []) = 0) = false := by simpa using hc0
          go_wp2_with fail
          refine hck.mono ?_
          rintro e w4 ⟨rfl, b4⟩
          have D4 : Dw 159 w g s k false 4 ⟨#[]⟩ (.slice A ln c) (.slice none 0 0) (.slice none 0 0) w4 := D.grow (Only.of_below b4) (fun b hb => by have := D.gz; omega)
          clear c0 c1 c2 x0 x1 x2 x3 x4 hck RL RV b4
          obtain ⟨z0, z1, z2, z3, z4⟩ := D4.z.cells
          have f0 := D4.z.free 0
          have f1 := D4.z.free 1
          have f2 := D4.z.free 2
          have f3 := D4.z.free 3
          have f4 := D4.z.free 4
          go_wp2_with fail
          have OF := onlyh (h := w.heap.size) (wr := w4) (.int .i64 0) (.string ⟨#[]⟩) (.slice none 0 0) (.slice none 0 0) (.slice none 0 0)
          have ZF := bv_set (k' := 0) (t' := ⟨#[]⟩) D4.z (.slice none 0 0) (.slice none 0 0) (.slice none 0 0)
          generalize ((((w4.setCell ⟨w.heap.size, 0, none⟩ (.int .i64 0)).setCell ⟨w.heap.size, 1, none⟩ (.string ⟨#[]⟩)).setCell ⟨w.heap.size, 2, none⟩ (.slice none 0 0)).setCell ⟨w.heap.size, 3, none⟩ (.slice none 0 0)).setCell ⟨w.heap.size, 4, none⟩ (.slice none 0 0) = wF at OF ZF ⊢
          obtain ⟨t0, t1, t2, t3, t4⟩ := ZF.cells
          exact bodyPost_ret (v := .tuple #[.agg #[.int .i64 0, .string ⟨#[]⟩, .slice none 0 0, .slice none 0 0, .slice none 0 0], .int .i64 0, .int .i64 132]) (by simp [results, Tryz.f65, go_sem, t0, t1, t2, t3, t4]) rfl (post_no HOK.out (OF.after D4.b (Nat.le_refl _) (fun b h => Nat.le_of_eq h.symm)))
      · obtain ⟨m', rfl⟩ : ∃ m', m = m' + 1 := ⟨m - 1, by omega⟩
        have HC4 : Hid (ln * 4 ≤ k) := Lib.hid (HC.out.2 rfl)
        have hln : ln ≤ 100000000 := by have := HC4.out; have := D.hk; omega
        obtain ⟨i, hi⟩ : ∃ i, N - (m' + 1) = i := ⟨_, rfl⟩
        have hiN : i < N := by omega
        have hie : N - m' = i + 1 := by omega
        rw [hi]
        have HI := Lib.hid (And.intro hi hie)
        clear hi hie
        have hmi : (i : Int) < (N : Int) := by omega
        have hm2 : (i : Int) ≤ 4294967295 := by omega
        have hnb : (N : Int) ≤ 4294967295 := by omega
        obtain ⟨t, k2, b2, ht⟩ : ∃ t k2 b2, rtxt s (k, false) = (t, (k2, b2)) := ⟨_, _, _, rfl⟩
        have hk2 : k2 ≤ s.size := by have h := rtxt_le s (k, false) D.hk; rwa [ht] at h
        have htx := fun w' (h : Rdr 159 w' (w.heap.size + 1) s k false) => txt_r (w.heap.size + 1) s k false w' h D.hk (by omega) ht
        have HT := Lib.hid ht
        clear ht
        have x0 := D.x.cells.1
        have x2 := D.x.cells.2.2.1
        have hgz := D.gz
        go_wp2_with fail
        go_region_law (first
          | (refine step_enter rfl 91 #[.pointer (some ⟨w.heap.size + 1, 0, none⟩)] (by simp [go_sem, execOp, resolve, invoke]) ?_; refine (htx _ D.drew.rd).mono ?_; rintro e w5 ⟨rfl, R5, O5⟩; refine ⟨_, rfl, ?_⟩; have D5 := D.drew.read R5 hk2 O5; have o5 := own_nB O.drew O5 (by have := D.hg; omega); have e5 := D5.x.cells.2.2.1; have d5 := cell_al e5 (.cells #[.string t] 9))
          | (refine step_of_list rfl ?_; refine wpList_app1 (w := w5) rfl (.tmp 47) (.tmp 50) elS rfl (g + 1) (.slice A ln c) ln (strs l) rfl o5 (.string t) rfl rfl (by unfold maxLen; omega) (by omega) (D5.gz) ?_; intro v' w6 q1 q2 q3; refine ⟨rfl, ?_⟩; have D6 := D5.grow q2 (own_bl o5); obtain ⟨b, c', rfl, hc', hb⟩ := own_pos q1; have u2 := D6.x.free 2; have u4 := D6.x.cells.2.2.1))
        all_goals (
          go_wp2_with fail
          have O7 := own_nB q1 (onlyg (g := g) 2 (.slice (some ⟨b, 0, none⟩) (ln + 1) c')) (Nat.lt_succ_self g)
          refine ⟨⟨m', ⟨k2, b2, l ++ [t], [], []⟩, some ⟨b, 0, none⟩, ln + 1, c', by rw [HI.out.2]; simp, by omega, rdN_step (by unfold rd1; rw [if_pos (.inr rfl)]; dsimp only; rw [HT.out]) HN.out, ⟨rfl, rfl, by simp [HC.out.1], fun hb => ?_⟩, D6.putL _, by simpa [strs] using O7⟩, by simp [intOf]; omega⟩
          have hg := rtxt_grow s (k, false) (by rw [HT.out]; exact hb)
          rw [HT.out] at hg
          have := HC4.out
          have h1 := hg.1
          dsimp only at h1
          show (ln + 1) * 4 ≤ k2
          omega)
    · have HOK : Hid ((decD s).ok = false) := Lib.hid (by rw [HD.out, ← HN.out, rdN_bad rfl]; rfl)
      obtain ⟨z0, z1, z2, z3, z4⟩ := D.z.cells
      have f0 := D.z.free 0
      have f1 := D.z.free 1
      have f2 := D.z.free 2
      have f3 := D.z.free 3
      have f4 := D.z.free 4
      have OF := onlyh (h := w.heap.size) (wr := wr) (.int .i64 0) (.string ⟨#[]⟩) (.slice none 0 0) (.slice none 0 0) (.slice none 0 0)
      have ZF := bv_set (k' := 0) (t' := ⟨#[]⟩) D.z (.slice none 0 0) (.slice none 0 0) (.slice none 0 0)
      obtain ⟨t0, t1, t2, t3, t4⟩ := ZF.cells
      have HF := Lib.hid (And.intro OF (And.intro ZF (And.intro t0 (And.intro t1 (And.intro t2 (And.intro t3 t4))))))
      clear OF ZF t0 t1 t2 t3 t4
      obtain ⟨i, hi⟩ : ∃ i, N - m = i := ⟨_, rfl⟩
      have hiN : (i : Int) ≤ (N : Int) := by omega
      have hnb : (N : Int) ≤ 4294967295 := by omega
      rw [hi]
      clear hi
      go_wp2_with fail
      all_goals (
        obtain ⟨OF, ZF, -⟩ := HF.out
        generalize ((((wr.setCell ⟨w.heap.size, 0, none⟩ (.int .i64 0)).setCell ⟨w.heap.size, 1, none⟩ (.string ⟨#[]⟩)).setCell ⟨w.heap.size, 2, none⟩ (.slice none 0 0)).setCell ⟨w.heap.size, 3, none⟩ (.slice none 0 0)).setCell ⟨w.heap.size, 4, none⟩ (.slice none 0 0) = wF at OF ZF ⊢
        obtain ⟨t0, t1, t2, t3, t4⟩ := ZF.cells
        exact bodyPost_ret (v := .tuple #[.agg #[.int .i64 0, .string ⟨#[]⟩, .slice none 0 0, .slice none 0 0, .slice none 0 0], .int .i64 0, .int .i64 132]) (by simp [results, Tryz.f65, go_sem, t0, t1, t2, t3, t4]) rfl (post_no HOK.out (OF.after D.b (Nat.le_refl _) (fun b h => Nat.le_of_eq h.symm))))
end Go.Proofs.YtgmnnpbbiejbnaaGreat.VcG
set_option maxRecDepth 100000
set_option linter.unusedSimpArgs false
set_option linter.unusedVariables false
namespace Go.Proofs.YtgmnnpbbiejbnaaGreat.VcH
open Go.RowKit Go.Proofs.YtgmnnpbbiejbnaaGreat.Mem Go.Proofs.YtgmnnpbbiejbnaaGreat.VaA Go.Proofs.YtgmnnpbbiejbnaaGreat.VaC Go.Proofs.YtgmnnpbbiejbnaaGreat.VaH Go.Proofs.YtgmnnpbbiejbnaaGreat.VaL Go.Proofs.YtgmnnpbbiejbnaaGreat.VaP Go.Proofs.YtgmnnpbbiejbnaaGreat.VaQ Go.Proofs.YtgmnnpbbiejbnaaGreat.VaS Go.Proofs.YtgmnnpbbiejbnaaGreat.VaT Go.Proofs.YtgmnnpbbiejbnaaGreat.VaU Go.Proofs.YtgmnnpbbiejbnaaGreat.VaW Go.Proofs.YtgmnnpbbiejbnaaGreat.VbA Go.Proofs.YtgmnnpbbiejbnaaGreat.VbB Go.Proofs.YtgmnnpbbiejbnaaGreat.VcV

set_option maxHeartbeats 4000000 in
theorem decR_3 (s : ByteArray) (w : World) (hs : s.size ≤ 100000000) (k0 k1 N : Nat) (b0 b1 : Bool) (h0 : rnum s 1 (0, false) = (3, (k0, b0))) (h1 : rnum s 4 (k0, b0) = (N, (k1, b1))) (hN : N ≤ 4294967295) :
    Calls Tryz.prog 65 #[.string s] w (DecPost s w (decD s)) := by
  have hk0 : k0 ≤ s.size := by have h := rnum_le s 1 (0, false) (Nat.zero_le _); rwa [h0] at h
  have hk1 : k1 ≤ s.size := by have h := rnum_le s 4 (k0, b0) hk0; rwa [h1] at h
  have HR := Lib.hid (And.intro h0 h1)
  have hn0 := fun w' (h : Rdr 159 w' (w.heap.size + 1) s 0 false) => num_r (w.heap.size + 1) s 0 1 false w' h (Nat.zero_le _) (by omega) (by decide) (by decide) h0
  have hn1 := fun w' (h : Rdr 159 w' (w.heap.size + 1) s k0 b0) => num_r (w.heap.size + 1) s k0 4 b0 w' h hk0 (by omega) (by decide) (by decide) h1
  clear h0 h1
  obtain ⟨W0, hW0⟩ : ∃ W0, (w.alloc (.cells #[.int .i64 0, .string ⟨#[]⟩, .slice none 0 0, .slice none 0 0, .slice none 0 0] 42)).alloc (.cells #[.string s, .int .i64 0, .bool false] 159) = W0 := ⟨_, rfl⟩
  have B0 : Below w.heap.size w W0 := by rw [← hW0]; exact ((Below.refl _ w).alloc (Nat.le_refl _) _).alloc (by simp) _
  have S0 : W0.heap.size = w.heap.size + 2 := by rw [← hW0]; simp
  have z0 : Bv W0 w.heap.size 0 ⟨#[]⟩ (.slice none 0 0) (.slice none 0 0) (.slice none 0 0) := by
    rw [← hW0]
    exact ((Only.refl (fun _ => False) (w.alloc _)).alloc _).heap (heap_alloc_new w _) id
  have r0 : Rdr 159 W0 (w.heap.size + 1) s 0 false := by
    rw [← hW0]
    have h := heap_alloc_new (w.alloc (.cells #[.int .i64 0, .string ⟨#[]⟩, .slice none 0 0, .slice none 0 0, .slice none 0 0] 42)) (.cells #[.string s, .int .i64 0, .bool false] 159)
    rw [World.size_alloc] at h
    exact h
  have H0 := Lib.hid hW0
  clear hW0
  have HS0 := Lib.hid S0
  clear S0
  go_enter Tryz.func65, Tryz.ntmps65
  go_wp2_with fail
  rw [H0.out]
  refine (hn0 W0 r0).mono ?_
  rintro e w1 ⟨rfl, r1, o1⟩
  have z1 := o1.heap z0 (by omega)
  have B1 := o1.after B0 (Nat.le_refl _) (fun b h => by omega)
  have hs1 := o1.size
  have hS := HS0.out
  have dw : Dw 159 w w1.heap.size s k0 b0 3 ⟨#[]⟩ (.slice none 0 0) (.slice none 0 0) (.slice none 0 0) (w1.alloc (.cells #[.int .i64 3, .string ⟨#[]⟩, .slice none 0 0, .slice none 0 0, .slice none 0 0] 42)) :=
    ⟨((Only.refl (fun _ => False) w1).alloc _).heap r1 id, hk0, ((Only.refl (fun _ => False) w1).alloc _).heap z1 id, heap_alloc_new w1 _, B1.alloc (by omega) _, by omega⟩
  clear r0 r1 z0 z1 o1 hn0 hS hs1 B0 B1
  go_wp2_with fail
  have hdw := dw
  obtain ⟨g, hg⟩ : ∃ g, w1.heap.size = g := ⟨_, rfl⟩
  rw [hg] at dw ⊢
  clear hdw
  generalize w1.alloc (.cells #[.int .i64 3, .string ⟨#[]⟩, .slice none 0 0, .slice none 0 0, .slice none 0 0] 42) = W1 at dw ⊢
  refine (hn1 W1 dw.rd).mono ?_
  rintro e w2 ⟨rfl, r2, o2⟩
  have d2 := dw.read r2 hk1 o2
  clear hn1 r2 o2 dw hg hk0
  have HD : Hid (decD s = ⟨3, ⟨#[]⟩, rdN s 3 N ⟨k1, b1, [], [], []⟩⟩) := Lib.hid (by unfold decD; rw [HR.out.1]; dsimp only; rw [if_neg (by decide), HR.out.2])
  clear HR 
  go_wp2_with fail
  go_loopw [8] (fun n wr => ∃ m st A ln c, n = .int .u64 ((N - m : Nat) : Int) ∧ m ≤ N ∧ rdN s 3 m st = rdN s 3 N ⟨k1, b1, [], [], []⟩ ∧ (st.l = [] ∧ st.r = [] ∧ st.f.length = ln ∧ (st.bad = false → ln * 8 ≤ st.k)) ∧ Dw 159 w g s st.k st.bad 3 ⟨#[]⟩ (.slice none 0 0) (.slice A ln c) (.slice none 0 0) wr ∧ wr.ownsRow (g + 1) 113 2 (.slice A ln c) ln (flds st.f)) (fun n _ => N - (intOf n).toNat)
  case atStart => exact ⟨N, _, none, 0, 0, by simp, Nat.le_refl _, rfl, ⟨rfl, rfl, rfl, fun _ => Nat.zero_le _⟩, d2, World.ownsRow_nil _ _ _ _⟩
  case round =>
    obtain ⟨m, ⟨k, bad, l, f, r⟩, A, ln, c, rfl, hm, hN', ⟨ho1, ho2, hl, hcnt⟩, D, O⟩ := hrel
    dsimp only at ho1 ho2 hl hcnt D O
    subst ho1 ho2
    have HN := Lib.hid hN'
    have HC := Lib.hid (And.intro hl hcnt)
    clear hN' hl hcnt d2
    have c0 := D.rd.c0
    have c1 := D.rd.c1
    have c2 := D.rd.c2
    cases bad
    · rcases Nat.eq_zero_or_pos m with rfl | hpos
      · have HK : Hid (decD s = ⟨3, ⟨#[]⟩, ⟨k, false, [], f, []⟩⟩) := Lib.hid (by rw [HD.out, ← HN.out]; rfl)
        have RL : Rd wr 2 A ln c (flds f) := Rd.of_own O
        have RV : RdV wr ⟨3, ⟨#[]⟩, none, 0, 0, [], A, ln, c, f, none, 0, 0, []⟩ := ⟨rd_nil0 _ _, RL, rd_nil0 _ _⟩
        have HC4 : Hid (ln * 8 ≤ k) := Lib.hid (HC.out.2 rfl)
        have hln : ln ≤ 100000000 := by have := HC4.out; have := D.hk; omega
        have hck : Calls Tryz.prog 66 #[.agg #[.int .i64 3, .string ⟨#[]⟩, .slice none 0 0, .slice A ln c, .slice none 0 0]] wr fun e w' => e = .returned (.int .i64 (chk ⟨3, ⟨#[]⟩, none, 0, 0, [], A, ln, c, f, none, 0, 0, []⟩)) ∧ Below wr.heap.size wr w' := checkR_calls ⟨3, ⟨#[]⟩, none, 0, 0, [], A, ln, c, f, none, 0, 0, []⟩ wr RV (Nat.zero_le _)
        have HCE : Hid (chk ⟨3, ⟨#[]⟩, none, 0, 0, [], A, ln, c, f, none, 0, 0, []⟩ = chk (bare 3 ⟨#[]⟩ [] f [])) := Lib.hid (by rw [← HC.out.1]; rfl)
        rw [HCE.out] at hck
        obtain ⟨x0, x1, x2, x3, x4⟩ := D.x.cells
        have hcnd : decide (((N - 0 : Nat) : Int) < (N : Int)) = false := by simp
        by_cases hc0 : chk (bare 3 ⟨#[]⟩ [] f []) = 0
        · have HOK : Hid ((decD s).ok = true) := Lib.hid (by rw [HK.out]; unfold Dc.ok Dc.v; simp; exact hc0)
          rw [hc0] at hck
          clear hc0
          go_wp2_with fail
          refine hck.mono ?_
          rintro e w4 ⟨rfl, b4⟩
          have D4 : Dw 159 w g s k false 3 ⟨#[]⟩ (.slice none 0 0) (.slice A ln c) (.slice none 0 0) w4 := D.grow (Only.of_below b4) (fun b hb => by have := D.gz; omega)
          have R4 := RV.below b4
          have W4 := (wr_own O).below b4
          clear c0 c1 c2 x0 x1 x2 x3 x4 hck RL RV b4
          obtain ⟨x0, x1, x2, x3, x4⟩ := D4.x.cells
          obtain ⟨z0, z1, z2, z3, z4⟩ := D4.z.cells
          have f0 := D4.z.free 0
          have f1 := D4.z.free 1
          have f2 := D4.z.free 2
          have f3 := D4.z.free 3
          have f4 := D4.z.free 4
          have c1 := D4.rd.c1
          go_wp2_with fail
          have NA := nw_own O
          go_region_law (fail)
          all_goals (
            go_wp2_with fail
            have OF := onlyh (h := w.heap.size) (wr := w4) (.int .i64 3) (.string ⟨#[]⟩) (.slice none 0 0) (.slice A ln c) (.slice none 0 0)
            have ZF := bv_set (k' := 3) (t' := ⟨#[]⟩) D4.z (.slice none 0 0) (.slice A ln c) (.slice none 0 0)
            generalize ((((w4.setCell ⟨w.heap.size, 0, none⟩ (.int .i64 3)).setCell ⟨w.heap.size, 1, none⟩ (.string ⟨#[]⟩)).setCell ⟨w.heap.size, 2, none⟩ (.slice none 0 0)).setCell ⟨w.heap.size, 3, none⟩ (.slice A ln c)).setCell ⟨w.heap.size, 4, none⟩ (.slice none 0 0) = wF at OF ZF ⊢
            obtain ⟨t0, t1, t2, t3, t4⟩ := ZF.cells
            refine bodyPost_ret (v := .tuple #[.agg #[.int .i64 3, .string ⟨#[]⟩, .slice none 0 0, .slice A ln c, .slice none 0 0], .int .i64 k, .int .i64 0]) (by simp [results, Tryz.f65, go_sem, t0, t1, t2, t3, t4]) rfl ?_
            exact ⟨⟨3, ⟨#[]⟩, none, 0, 0, [], A, ln, c, f, none, 0, 0, []⟩, by rw [HOK.out, HK.out]; rfl, by rw [HOK.out, HK.out]; exact ⟨rfl, rfl, rfl, rfl, rfl⟩,
              ⟨rd_nil0 _ _, R4.f.only OF.drew (fun ad e => by have := NA ad e; have := D4.hg; omega), rd_nil0 _ _⟩, ⟨⟨nw_none _, fun ad e => by have := NA ad e; have := D4.hg; omega, nw_none _⟩, wr_none _ _ _, W4.only OF.drew (fun ad e => by have := NA ad e; have := D4.hg; omega), wr_none _ _ _⟩, OF.drew.after D4.b (Nat.le_refl _) (fun b h => Nat.le_of_eq h.symm)⟩)
        · have HOK : Hid ((decD s).ok = false) := Lib.hid (by rw [HK.out]; unfold Dc.ok Dc.v; simp; exact hc0)
          have hne : decide (chk (bare 3 ⟨#[]⟩ [] f []) = 0) = false := by simpa using hc0
          go_wp2_with fail
          refine hck.mono ?_
          rintro e w4 ⟨rfl, b4⟩
          have D4 : Dw 159 w g s k false 3 ⟨#[]⟩ (.slice none 0 0) (.slice A ln c) (.slice none 0 0) w4 := D.grow (Only.of_below b4) (fun b hb => by have := D.gz; omega)
          clear c0 c1 c2 x0 x1 x2 x3 x4 hck RL RV b4
          obtain ⟨z0, z1, z2, z3, z4⟩ := D4.z.cells
          have f0 := D4.z.free 0
          have f1 := D4.z.free 1
          have f2 := D4.z.free 2
          have f3 := D4.z.free 3
          have f4 := D4.z.free 4
          go_wp2_with fail
          have OF := onlyh (h := w.heap.size) (wr := w4) (.int .i64 0) (.string ⟨#[]⟩) (.slice none 0 0) (.slice none 0 0) (.slice none 0 0)
          have ZF := bv_set (k' := 0) (t' := ⟨#[]⟩) D4.z (.slice none 0 0) (.slice none 0 0) (.slice none 0 0)
          generalize ((((w4.setCell ⟨w.heap.size, 0, none⟩ (.int .i64 0)).setCell ⟨w.heap.size, 1, none⟩ (.string ⟨#[]⟩)).setCell ⟨w.heap.size, 2, none⟩ (.slice none 0 0)).setCell ⟨w.heap.size, 3, none⟩ (.slice none 0 0)).setCell ⟨w.heap.size, 4, none⟩ (.slice none 0 0) = wF at OF ZF ⊢
          obtain ⟨t0, t1, t2, t3, t4⟩ := ZF.cells
          exact bodyPost_ret (v := .tuple #[.agg #[.int .i64 0, .string ⟨#[]⟩, .slice none 0 0, .slice none 0 0, .slice none 0 0], .int .i64 0, .int .i64 132]) (by simp [results, Tryz.f65, go_sem, t0, t1, t2, t3, t4]) rfl (post_no HOK.out (OF.after D4.b (Nat.le_refl _) (fun b h => Nat.le_of_eq h.symm)))
      · obtain ⟨m', rfl⟩ : ∃ m', m = m' + 1 := ⟨m - 1, by omega⟩
        have HC4 : Hid (ln * 8 ≤ k) := Lib.hid (HC.out.2 rfl)
        have hln : ln ≤ 100000000 := by have := HC4.out; have := D.hk; omega
        obtain ⟨i, hi⟩ : ∃ i, N - (m' + 1) = i := ⟨_, rfl⟩
        have hiN : i < N := by omega
        have hie : N - m' = i + 1 := by omega
        rw [hi]
        have HI := Lib.hid (And.intro hi hie)
        clear hi hie
        have hmi : (i : Int) < (N : Int) := by omega
        have hm2 : (i : Int) ≤ 4294967295 := by omega
        have hnb : (N : Int) ≤ 4294967295 := by omega
        obtain ⟨t, k2, b2, ht⟩ : ∃ t k2 b2, rtxt s (k, false) = (t, (k2, b2)) := ⟨_, _, _, rfl⟩
        obtain ⟨t', k3, b3, ht'⟩ : ∃ t k3 b3, rtxt s (k2, b2) = (t, (k3, b3)) := ⟨_, _, _, rfl⟩
        have hk2 : k2 ≤ s.size := by have h := rtxt_le s (k, false) D.hk; rwa [ht] at h
        have hk3 : k3 ≤ s.size := by have h := rtxt_le s (k2, b2) hk2; rwa [ht'] at h
        have htx := fun w' (h : Rdr 159 w' (w.heap.size + 1) s k false) => txt_r (w.heap.size + 1) s k false w' h D.hk (by omega) ht
        have hty := fun w' (h : Rdr 159 w' (w.heap.size + 1) s k2 b2) => txt_r (w.heap.size + 1) s k2 b2 w' h hk2 (by omega) ht'
        have HT := Lib.hid (And.intro ht ht')
        clear ht ht'
        have x0 := D.x.cells.1
        go_wp2_with fail
        refine (htx _ D.rd).mono ?_
        rintro e wq ⟨rfl, Rq, Oq⟩
        have Dq := D.read Rq hk2 Oq
        have oq := own_nB O Oq (by have := D.hg; omega)
        clear htx Rq Oq c0 c1 c2 x0
        have x3 := Dq.x.cells.2.2.2.1
        have hgz := Dq.gz
        go_wp2_with fail
        go_region_law (first
          | (refine step_enter rfl 91 #[.pointer (some ⟨w.heap.size + 1, 0, none⟩)] (by simp [go_sem, execOp, resolve, invoke]) ?_; refine (hty _ Dq.drew.rd).mono ?_; rintro e w5 ⟨rfl, R5, O5⟩; refine ⟨_, rfl, ?_⟩; have D5 := Dq.drew.read R5 hk3 O5; have o5 := own_nB oq.drew O5 (by have := D.hg; omega); have e5 := D5.x.cells.2.2.2.1; have d5 := cell_al e5 (.cells #[.string t, .string t'] 113); have D5a := D5.grow ((Only.refl (fun _ => False) w5).alloc (.cells #[.string t, .string t'] 113)) (fun b hb => hb.elim); have o5a := o5.alloc (.cells #[.string t, .string t'] 113))
          | (refine step_of_list rfl ?_; refine wpList_app (w := w5.alloc (.cells #[.string t, .string t'] 113)) rfl (.tmp 58) (.tmp 63) elF rfl (g + 1) (.slice A ln c) ln (flds f) rfl o5a (some ⟨w5.heap.size, 0, none⟩) 1 1 [.string t, .string t'] rfl (rd_two w5 _ _ _) (by simp; exact ⟨rfl, rfl⟩) (by unfold maxLen; omega) (by omega) (D5a.gz) ?_; intro v' w6 q1 q2 q3; refine ⟨rfl, ?_⟩; have D6 := D5a.grow q2 (own_bl o5a); obtain ⟨b, c', rfl, hc', hb⟩ := own_pos q1; have u2 := D6.x.free 3; have u4 := D6.x.cells.2.2.2.1))
        all_goals (
          go_wp2_with fail
          have O7 := own_nB q1 (onlyg (g := g) 3 (.slice (some ⟨b, 0, none⟩) (ln + 1) c')) (Nat.lt_succ_self g)
          refine ⟨⟨m', ⟨k3, b3, [], f ++ [(t, t')], []⟩, some ⟨b, 0, none⟩, ln + 1, c', by rw [HI.out.2]; simp, by omega, rdN_step (by unfold rd1; rw [if_neg (by decide), if_pos rfl]; dsimp only; rw [HT.out.1, HT.out.2]) HN.out, ⟨rfl, rfl, by simp [HC.out.1], fun hb => ?_⟩, D6.putF _, by simpa [flds] using O7⟩, by simp [intOf]; omega⟩
          have hg := rtxt_grow s (k2, b2) (by rw [HT.out.2]; exact hb)
          rw [HT.out.2] at hg
          have hg' := rtxt_grow s (k, false) (by rw [HT.out.1]; exact hg.2)
          rw [HT.out.1] at hg'
          have := HC4.out
          have h1 := hg.1
          have h2 := hg'.1
          dsimp only at h1 h2
          show (ln + 1) * 8 ≤ k3
          omega)
    · have HOK : Hid ((decD s).ok = false) := Lib.hid (by rw [HD.out, ← HN.out, rdN_bad rfl]; rfl)
      obtain ⟨z0, z1, z2, z3, z4⟩ := D.z.cells
      have f0 := D.z.free 0
      have f1 := D.z.free 1
      have f2 := D.z.free 2
      have f3 := D.z.free 3
      have f4 := D.z.free 4
      have OF := onlyh (h := w.heap.size) (wr := wr) (.int .i64 0) (.string ⟨#[]⟩) (.slice none 0 0) (.slice none 0 0) (.slice none 0 0)
      have ZF := bv_set (k' := 0) (t' := ⟨#[]⟩) D.z (.slice none 0 0) (.slice none 0 0) (.slice none 0 0)
      obtain ⟨t0, t1, t2, t3, t4⟩ := ZF.cells
      have HF := Lib.hid (And.intro OF (And.intro ZF (And.intro t0 (And.intro t1 (And.intro t2 (And.intro t3 t4))))))
      clear OF ZF t0 t1 t2 t3 t4
      obtain ⟨i, hi⟩ : ∃ i, N - m = i := ⟨_, rfl⟩
      have hiN : (i : Int) ≤ (N : Int) := by omega
      have hnb : (N : Int) ≤ 4294967295 := by omega
      rw [hi]
      clear hi
      go_wp2_with fail
      all_goals (
        obtain ⟨OF, ZF, -⟩ := HF.out
        generalize ((((wr.setCell ⟨w.heap.size, 0, none⟩ (.int .i64 0)).setCell ⟨w.heap.size, 1, none⟩ (.string ⟨#[]⟩)).setCell ⟨w.heap.size, 2, none⟩ (.slice none 0 0)).setCell ⟨w.heap.size, 3, none⟩ (.slice none 0 0)).setCell ⟨w.heap.size, 4, none⟩ (.slice none 0 0) = wF at OF ZF ⊢
        obtain ⟨t0, t1, t2, t3, t4⟩ := ZF.cells
        exact bodyPost_ret (v := .tuple #[.agg #[.int .i64 0, .string ⟨#[]⟩, .slice none 0 0, .slice none 0 0, .slice none 0 0], .int .i64 0, .int .i64 132]) (by simp [results, Tryz.f65, go_sem, t0, t1, t2, t3, t4]) rfl (post_no HOK.out (OF.after D.b (Nat.le_refl _) (fun b h => Nat.le_of_eq h.symm))))
end Go.Proofs.YtgmnnpbbiejbnaaGreat.VcH
set_option maxRecDepth 100000
set_option linter.unusedSimpArgs false
set_option linter.unusedVariables false
namespace Go.Proofs.YtgmnnpbbiejbnaaGreat.VcI
open Go.RowKit Go.Proofs.YtgmnnpbbiejbnaaGreat.Mem Go.Proofs.YtgmnnpbbiejbnaaGreat.VaA Go.Proofs.YtgmnnpbbiejbnaaGreat.VaC Go.Proofs.YtgmnnpbbiejbnaaGreat.VaH Go.Proofs.YtgmnnpbbiejbnaaGreat.VaL Go.Proofs.YtgmnnpbbiejbnaaGreat.VaP Go.Proofs.YtgmnnpbbiejbnaaGreat.VaQ Go.Proofs.YtgmnnpbbiejbnaaGreat.VaS Go.Proofs.YtgmnnpbbiejbnaaGreat.VaT Go.Proofs.YtgmnnpbbiejbnaaGreat.VaU Go.Proofs.YtgmnnpbbiejbnaaGreat.VaW Go.Proofs.YtgmnnpbbiejbnaaGreat.VbA Go.Proofs.YtgmnnpbbiejbnaaGreat.VbB Go.Proofs.YtgmnnpbbiejbnaaGreat.VcV

set_option maxHeartbeats 4000000 in
theorem decR_5 (s : ByteArray) (w : World) (hs : s.size ≤ 100000000) (k0 k1 N : Nat) (b0 b1 : Bool) (h0 : rnum s 1 (0, false) = (5, (k0, b0))) (h1 : rnum s 4 (k0, b0) = (N, (k1, b1))) (hN : N ≤ 4294967295) :
    Calls Tryz.prog 65 #[.string s] w (DecPost s w (decD s)) := by
  have hk0 : k0 ≤ s.size := by have h := rnum_le s 1 (0, false) (Nat.zero_le _); rwa [h0] at h
  have hk1 : k1 ≤ s.size := by have h := rnum_le s 4 (k0, b0) hk0; rwa [h1] at h
  have HR := Lib.hid (And.intro h0 h1)
  have hn0 := fun w' (h : Rdr 159 w' (w.heap.size + 1) s 0 false) => num_r (w.heap.size + 1) s 0 1 false w' h (Nat.zero_le _) (by omega) (by decide) (by decide) h0
  have hn1 := fun w' (h : Rdr 159 w' (w.heap.size + 1) s k0 b0) => num_r (w.heap.size + 1) s k0 4 b0 w' h hk0 (by omega) (by decide) (by decide) h1
  clear h0 h1
  obtain ⟨W0, hW0⟩ : ∃ W0, (w.alloc (.cells #[.int .i64 0, .string ⟨#[]⟩, .slice none 0 0, .slice none 0 0, .slice none 0 0] 42)).alloc (.cells #[.string s, .int .i64 0, .bool false] 159) = W0 := ⟨_, rfl⟩
  have B0 : Below w.heap.size w W0 := by rw [← hW0]; exact ((Below.refl _ w).alloc (Nat.le_refl _) _).alloc (by simp) _
  have S0 : W0.heap.size = w.heap.size + 2 := by rw [← hW0]; simp
  have z0 : Bv W0 w.heap.size 0 ⟨#[]⟩ (.slice none 0 0) (.slice none 0 0) (.slice none 0 0) := by
    rw [← hW0]
    exact ((Only.refl (fun _ => False) (w.alloc _)).alloc _).heap (heap_alloc_new w _) id
  have r0 : Rdr 159 W0 (w.heap.size + 1) s 0 false := by
    rw [← hW0]
    have h := heap_alloc_new (w.alloc (.cells #[.int .i64 0, .string ⟨#[]⟩, .slice none 0 0, .slice none 0 0, .slice none 0 0] 42)) (.cells #[.string s, .int .i64 0, .bool false] 159)
    rw [World.size_alloc] at h
    exact h
  have H0 := Lib.hid hW0
  clear hW0
  have HS0 := Lib.hid S0
  clear S0
  go_enter Tryz.func65, Tryz.ntmps65
  go_wp2_with fail
  rw [H0.out]
  refine (hn0 W0 r0).mono ?_
  rintro e w1 ⟨rfl, r1, o1⟩
  have z1 := o1.heap z0 (by omega)
  have B1 := o1.after B0 (Nat.le_refl _) (fun b h => by omega)
  have hs1 := o1.size
  have hS := HS0.out
  have dw : Dw 159 w w1.heap.size s k0 b0 5 ⟨#[]⟩ (.slice none 0 0) (.slice none 0 0) (.slice none 0 0) (w1.alloc (.cells #[.int .i64 5, .string ⟨#[]⟩, .slice none 0 0, .slice none 0 0, .slice none 0 0] 42)) :=
    ⟨((Only.refl (fun _ => False) w1).alloc _).heap r1 id, hk0, ((Only.refl (fun _ => False) w1).alloc _).heap z1 id, heap_alloc_new w1 _, B1.alloc (by omega) _, by omega⟩
  clear r0 r1 z0 z1 o1 hn0 hS hs1 B0 B1
  go_wp2_with fail
  have hdw := dw
  obtain ⟨g, hg⟩ : ∃ g, w1.heap.size = g := ⟨_, rfl⟩
  rw [hg] at dw ⊢
  clear hdw
  generalize w1.alloc (.cells #[.int .i64 5, .string ⟨#[]⟩, .slice none 0 0, .slice none 0 0, .slice none 0 0] 42) = W1 at dw ⊢
  refine (hn1 W1 dw.rd).mono ?_
  rintro e w2 ⟨rfl, r2, o2⟩
  have d2 := dw.read r2 hk1 o2
  clear hn1 r2 o2 dw hg hk0
  have HD : Hid (decD s = ⟨5, ⟨#[]⟩, rdN s 5 N ⟨k1, b1, [], [], []⟩⟩) := Lib.hid (by unfold decD; rw [HR.out.1]; dsimp only; rw [if_neg (by decide), HR.out.2])
  clear HR 
  go_wp2_with fail
  go_loopw [8] (fun n wr => ∃ m st A ln c, n = .int .u64 ((N - m : Nat) : Int) ∧ m ≤ N ∧ rdN s 5 m st = rdN s 5 N ⟨k1, b1, [], [], []⟩ ∧ (st.l = [] ∧ st.f = [] ∧ st.r.length = ln ∧ (st.bad = false → ln * 12 ≤ st.k) ∧ (∀ y ∈ st.r, y.1.size ≤ s.size)) ∧ Dw 159 w g s st.k st.bad 5 ⟨#[]⟩ (.slice none 0 0) (.slice none 0 0) (.slice A ln c) wr ∧ wr.ownsRow (g + 1) 115 2 (.slice A ln c) ln (rnks st.r)) (fun n _ => N - (intOf n).toNat)
  case atStart => exact ⟨N, _, none, 0, 0, by simp, Nat.le_refl _, rfl, ⟨rfl, rfl, rfl, fun _ => Nat.zero_le _, fun y h => by cases h⟩, d2, World.ownsRow_nil _ _ _ _⟩
  case round =>
    obtain ⟨m, ⟨k, bad, l, f, r⟩, A, ln, c, rfl, hm, hN', ⟨ho1, ho2, hl, hcnt, hsm⟩, D, O⟩ := hrel
    dsimp only at ho1 ho2 hl hcnt hsm D O
    subst ho1 ho2
    have HN := Lib.hid hN'
    have HC := Lib.hid (And.intro hl hcnt)
    have HY := Lib.hid hsm
    clear hN' hl hcnt d2 hsm
    have c0 := D.rd.c0
    have c1 := D.rd.c1
    have c2 := D.rd.c2
    cases bad
    · rcases Nat.eq_zero_or_pos m with rfl | hpos
      · have HK : Hid (decD s = ⟨5, ⟨#[]⟩, ⟨k, false, [], [], r⟩⟩) := Lib.hid (by rw [HD.out, ← HN.out]; rfl)
        have RL : Rd wr 2 A ln c (rnks r) := Rd.of_own O
        have RV : RdV wr ⟨5, ⟨#[]⟩, none, 0, 0, [], none, 0, 0, [], A, ln, c, r⟩ := ⟨rd_nil0 _ _, rd_nil0 _ _, RL⟩
        have HC4 : Hid (ln * 12 ≤ k) := Lib.hid (HC.out.2 rfl)
        have hln : ln ≤ 100000000 := by have := HC4.out; have := D.hk; omega
        have hck : Calls Tryz.prog 66 #[.agg #[.int .i64 5, .string ⟨#[]⟩, .slice none 0 0, .slice none 0 0, .slice A ln c]] wr fun e w' => e = .returned (.int .i64 (chk ⟨5, ⟨#[]⟩, none, 0, 0, [], none, 0, 0, [], A, ln, c, r⟩)) ∧ Below wr.heap.size wr w' := checkR_calls ⟨5, ⟨#[]⟩, none, 0, 0, [], none, 0, 0, [], A, ln, c, r⟩ wr RV hln
        have HCE : Hid (chk ⟨5, ⟨#[]⟩, none, 0, 0, [], none, 0, 0, [], A, ln, c, r⟩ = chk (bare 5 ⟨#[]⟩ [] [] r)) := Lib.hid (by rw [← HC.out.1]; rfl)
        rw [HCE.out] at hck
        obtain ⟨x0, x1, x2, x3, x4⟩ := D.x.cells
        have hcnd : decide (((N - 0 : Nat) : Int) < (N : Int)) = false := by simp
        by_cases hc0 : chk (bare 5 ⟨#[]⟩ [] [] r) = 0
        · have HOK : Hid ((decD s).ok = true) := Lib.hid (by rw [HK.out]; unfold Dc.ok Dc.v; simp; exact hc0)
          rw [hc0] at hck
          clear hc0
          go_wp2_with fail
          refine hck.mono ?_
          rintro e w4 ⟨rfl, b4⟩
          have D4 : Dw 159 w g s k false 5 ⟨#[]⟩ (.slice none 0 0) (.slice none 0 0) (.slice A ln c) w4 := D.grow (Only.of_below b4) (fun b hb => by have := D.gz; omega)
          have R4 := RV.below b4
          have W4 := (wr_own O).below b4
          clear c0 c1 c2 x0 x1 x2 x3 x4 hck RL RV b4
          obtain ⟨x0, x1, x2, x3, x4⟩ := D4.x.cells
          obtain ⟨z0, z1, z2, z3, z4⟩ := D4.z.cells
          have f0 := D4.z.free 0
          have f1 := D4.z.free 1
          have f2 := D4.z.free 2
          have f3 := D4.z.free 3
          have f4 := D4.z.free 4
          have c1 := D4.rd.c1
          go_wp2_with fail
          have NA := nw_own O
          go_region_law (fail)
          all_goals (
            go_wp2_with fail
            have OF := onlyh (h := w.heap.size) (wr := w4) (.int .i64 5) (.string ⟨#[]⟩) (.slice none 0 0) (.slice none 0 0) (.slice A ln c)
            have ZF := bv_set (k' := 5) (t' := ⟨#[]⟩) D4.z (.slice none 0 0) (.slice none 0 0) (.slice A ln c)
            generalize ((((w4.setCell ⟨w.heap.size, 0, none⟩ (.int .i64 5)).setCell ⟨w.heap.size, 1, none⟩ (.string ⟨#[]⟩)).setCell ⟨w.heap.size, 2, none⟩ (.slice none 0 0)).setCell ⟨w.heap.size, 3, none⟩ (.slice none 0 0)).setCell ⟨w.heap.size, 4, none⟩ (.slice A ln c) = wF at OF ZF ⊢
            obtain ⟨t0, t1, t2, t3, t4⟩ := ZF.cells
            refine bodyPost_ret (v := .tuple #[.agg #[.int .i64 5, .string ⟨#[]⟩, .slice none 0 0, .slice none 0 0, .slice A ln c], .int .i64 k, .int .i64 0]) (by simp [results, Tryz.f65, go_sem, t0, t1, t2, t3, t4]) rfl ?_
            exact ⟨⟨5, ⟨#[]⟩, none, 0, 0, [], none, 0, 0, [], A, ln, c, r⟩, by rw [HOK.out, HK.out]; rfl, by rw [HOK.out, HK.out]; exact ⟨rfl, rfl, rfl, rfl, rfl⟩,
              ⟨rd_nil0 _ _, rd_nil0 _ _, R4.k.only OF.drew (fun ad e => by have := NA ad e; have := D4.hg; omega)⟩, ⟨⟨nw_none _, nw_none _, fun ad e => by have := NA ad e; have := D4.hg; omega⟩, wr_none _ _ _, wr_none _ _ _, W4.only OF.drew (fun ad e => by have := NA ad e; have := D4.hg; omega)⟩, OF.drew.after D4.b (Nat.le_refl _) (fun b h => Nat.le_of_eq h.symm)⟩)
        · have HOK : Hid ((decD s).ok = false) := Lib.hid (by rw [HK.out]; unfold Dc.ok Dc.v; simp; exact hc0)
          have hne : decide (chk (bare 5 ⟨#[]⟩ [] [] r) = 0) = false := by simpa using hc0
          go_wp2_with fail
          refine hck.mono ?_
          rintro e w4 ⟨rfl, b4⟩
          have D4 : Dw 159 w g s k false 5 ⟨#[]⟩ (.slice none 0 0) (.slice none 0 0) (.slice A ln c) w4 := D.grow (Only.of_below b4) (fun b hb => by have := D.gz; omega)
          clear c0 c1 c2 x0 x1 x2 x3 x4 hck RL RV b4
          obtain ⟨z0, z1, z2, z3, z4⟩ := D4.z.cells
          have f0 := D4.z.free 0
          have f1 := D4.z.free 1
          have f2 := D4.z.free 2
          have f3 := D4.z.free 3
          have f4 := D4.z.free 4
          go_wp2_with fail
          have OF := onlyh (h := w.heap.size) (wr := w4) (.int .i64 0) (.string ⟨#[]⟩) (.slice none 0 0) (.slice none 0 0) (.slice none 0 0)
          have ZF := bv_set (k' := 0) (t' := ⟨#[]⟩) D4.z (.slice none 0 0) (.slice none 0 0) (.slice none 0 0)
          generalize ((((w4.setCell ⟨w.heap.size, 0, none⟩ (.int .i64 0)).setCell ⟨w.heap.size, 1, none⟩ (.string ⟨#[]⟩)).setCell ⟨w.heap.size, 2, none⟩ (.slice none 0 0)).setCell ⟨w.heap.size, 3, none⟩ (.slice none 0 0)).setCell ⟨w.heap.size, 4, none⟩ (.slice none 0 0) = wF at OF ZF ⊢
          obtain ⟨t0, t1, t2, t3, t4⟩ := ZF.cells
          exact bodyPost_ret (v := .tuple #[.agg #[.int .i64 0, .string ⟨#[]⟩, .slice none 0 0, .slice none 0 0, .slice none 0 0], .int .i64 0, .int .i64 132]) (by simp [results, Tryz.f65, go_sem, t0, t1, t2, t3, t4]) rfl (post_no HOK.out (OF.after D4.b (Nat.le_refl _) (fun b h => Nat.le_of_eq h.symm)))
      · obtain ⟨m', rfl⟩ : ∃ m', m = m' + 1 := ⟨m - 1, by omega⟩
        have HC4 : Hid (ln * 12 ≤ k) := Lib.hid (HC.out.2 rfl)
        have hln : ln ≤ 100000000 := by have := HC4.out; have := D.hk; omega
        obtain ⟨i, hi⟩ : ∃ i, N - (m' + 1) = i := ⟨_, rfl⟩
        have hiN : i < N := by omega
        have hie : N - m' = i + 1 := by omega
        rw [hi]
        have HI := Lib.hid (And.intro hi hie)
        clear hi hie
        have hmi : (i : Int) < (N : Int) := by omega
        have hm2 : (i : Int) ≤ 4294967295 := by omega
        have hnb : (N : Int) ≤ 4294967295 := by omega
        obtain ⟨n, k2, b2, ht⟩ : ∃ n k2 b2, rnum s 8 (k, false) = (n, (k2, b2)) := ⟨_, _, _, rfl⟩
        obtain ⟨t', k3, b3, ht'⟩ : ∃ t k3 b3, rtxt s (k2, b2) = (t, (k3, b3)) := ⟨_, _, _, rfl⟩
        have hk2 : k2 ≤ s.size := by have h := rnum_le s 8 (k, false) D.hk; rwa [ht] at h
        have hk3 : k3 ≤ s.size := by have h := rtxt_le s (k2, b2) hk2; rwa [ht'] at h
        have hts : t'.size ≤ s.size := by have h := rtxt_size s (k2, b2); rwa [ht'] at h
        have htx := fun w' (h : Rdr 159 w' (w.heap.size + 1) s k false) => num_r (w.heap.size + 1) s k 8 false w' h D.hk (by omega) (by decide) (by decide) ht
        have hty := fun w' (h : Rdr 159 w' (w.heap.size + 1) s k2 b2) => txt_r (w.heap.size + 1) s k2 b2 w' h hk2 (by omega) ht'
        have HT := Lib.hid (And.intro ht (And.intro ht' hts))
        clear ht ht' hts
        have x0 := D.x.cells.1
        go_wp2_with fail
        refine (htx _ D.rd).mono ?_
        rintro e wq ⟨rfl, Rq, Oq⟩
        have Dq := D.read Rq hk2 Oq
        have oq := own_nB O Oq (by have := D.hg; omega)
        clear htx Rq Oq c0 c1 c2 x0
        have x4 := Dq.x.cells.2.2.2.2
        have hgz := Dq.gz
        obtain ⟨z, hz⟩ : ∃ z, IntKind.i64.wrap (n : Int) = z := ⟨_, rfl⟩
        have HZ := Lib.hid hz
        go_wp2_with fail
        go_region_law (first
          | (refine step_enter rfl 91 #[.pointer (some ⟨w.heap.size + 1, 0, none⟩)] (by simp [go_sem, execOp, resolve, invoke]) ?_; refine (hty _ Dq.drew.rd).mono ?_; rintro e w5 ⟨rfl, R5, O5⟩; refine ⟨_, rfl, ?_⟩; have D5 := Dq.drew.read R5 hk3 O5; have o5 := own_nB oq.drew O5 (by have := D.hg; omega); have e5 := D5.x.cells.2.2.2.2; have d5 := cell_al e5 (.cells #[.string t', .int .i64 z] 115); have D5a := D5.grow ((Only.refl (fun _ => False) w5).alloc (.cells #[.string t', .int .i64 z] 115)) (fun b hb => hb.elim); have o5a := o5.alloc (.cells #[.string t', .int .i64 z] 115))
          | (refine step_of_list rfl ?_; refine wpList_app (w := w5.alloc (.cells #[.string t', .int .i64 z] 115)) rfl (.tmp 72) (.tmp 77) elK rfl (g + 1) (.slice A ln c) ln (rnks r) rfl o5a (some ⟨w5.heap.size, 0, none⟩) 1 1 [.string t', .int .i64 z] rfl (rd_two w5 _ _ _) (by simp; exact ⟨rfl, rfl⟩) (by unfold maxLen; omega) (by omega) (D5a.gz) ?_; intro v' w6 q1 q2 q3; refine ⟨rfl, ?_⟩; have D6 := D5a.grow q2 (own_bl o5a); obtain ⟨b, c', rfl, hc', hb⟩ := own_pos q1; have u2 := D6.x.free 4; have u4 := D6.x.cells.2.2.2.2))
        all_goals (
          go_wp2_with fail
          have O7 := own_nB q1 (onlyg (g := g) 4 (.slice (some ⟨b, 0, none⟩) (ln + 1) c')) (Nat.lt_succ_self g)
          refine ⟨⟨m', ⟨k3, b3, [], [], r ++ [(t', z)]⟩, some ⟨b, 0, none⟩, ln + 1, c', by rw [HI.out.2]; simp, by omega, rdN_step (by unfold rd1; rw [if_neg (by decide), if_neg (by decide), if_pos rfl]; dsimp only; rw [HT.out.1]; dsimp only; rw [HT.out.2.1, HZ.out]) HN.out, ⟨rfl, rfl, by simp [HC.out.1], fun hb => ?_, ?_⟩, D6.putK _, by simpa [rnks] using O7⟩, by simp [intOf]; omega⟩
          · have hg := rtxt_grow s (k2, b2) (by rw [HT.out.2.1]; exact hb)
            rw [HT.out.2.1] at hg
            have hg' := rnum_grow s 8 (k, false) (by rw [HT.out.1]; exact hg.2)
            rw [HT.out.1] at hg'
            have := HC4.out
            have h1 := hg.1
            have h2 := hg'.1
            dsimp only at h1 h2
            show (ln + 1) * 12 ≤ k3
            omega
          · intro y hy
            rcases List.mem_append.1 hy with hy | hy
            · exact HY.out y hy
            · rw [List.mem_singleton.1 hy]; exact HT.out.2.2)
    · have HOK : Hid ((decD s).ok = false) := Lib.hid (by rw [HD.out, ← HN.out, rdN_bad rfl]; rfl)
      obtain ⟨z0, z1, z2, z3, z4⟩ := D.z.cells
      have f0 := D.z.free 0
      have f1 := D.z.free 1
      have f2 := D.z.free 2
      have f3 := D.z.free 3
      have f4 := D.z.free 4
      have OF := onlyh (h := w.heap.size) (wr := wr) (.int .i64 0) (.string ⟨#[]⟩) (.slice none 0 0) (.slice none 0 0) (.slice none 0 0)
      have ZF := bv_set (k' := 0) (t' := ⟨#[]⟩) D.z (.slice none 0 0) (.slice none 0 0) (.slice none 0 0)
      obtain ⟨t0, t1, t2, t3, t4⟩ := ZF.cells
      have HF := Lib.hid (And.intro OF (And.intro ZF (And.intro t0 (And.intro t1 (And.intro t2 (And.intro t3 t4))))))
      clear OF ZF t0 t1 t2 t3 t4
      obtain ⟨i, hi⟩ : ∃ i, N - m = i := ⟨_, rfl⟩
      have hiN : (i : Int) ≤ (N : Int) := by omega
      have hnb : (N : Int) ≤ 4294967295 := by omega
      rw [hi]
      clear hi
      go_wp2_with fail
      all_goals (
        obtain ⟨OF, ZF, -⟩ := HF.out
        generalize ((((wr.setCell ⟨w.heap.size, 0, none⟩ (.int .i64 0)).setCell ⟨w.heap.size, 1, none⟩ (.string ⟨#[]⟩)).setCell ⟨w.heap.size, 2, none⟩ (.slice none 0 0)).setCell ⟨w.heap.size, 3, none⟩ (.slice none 0 0)).setCell ⟨w.heap.size, 4, none⟩ (.slice none 0 0) = wF at OF ZF ⊢
        obtain ⟨t0, t1, t2, t3, t4⟩ := ZF.cells
        exact bodyPost_ret (v := .tuple #[.agg #[.int .i64 0, .string ⟨#[]⟩, .slice none 0 0, .slice none 0 0, .slice none 0 0], .int .i64 0, .int .i64 132]) (by simp [results, Tryz.f65, go_sem, t0, t1, t2, t3, t4]) rfl (post_no HOK.out (OF.after D.b (Nat.le_refl _) (fun b h => Nat.le_of_eq h.symm))))
end Go.Proofs.YtgmnnpbbiejbnaaGreat.VcI
set_option maxRecDepth 100000
set_option linter.unusedSimpArgs false
set_option linter.unusedVariables false
namespace Go.Proofs.YtgmnnpbbiejbnaaGreat.VcJ
open Go.RowKit Go.Proofs.YtgmnnpbbiejbnaaGreat.Mem Go.Proofs.YtgmnnpbbiejbnaaGreat.VaA Go.Proofs.YtgmnnpbbiejbnaaGreat.VaC Go.Proofs.YtgmnnpbbiejbnaaGreat.VaH Go.Proofs.YtgmnnpbbiejbnaaGreat.VaL Go.Proofs.YtgmnnpbbiejbnaaGreat.VaP Go.Proofs.YtgmnnpbbiejbnaaGreat.VaQ Go.Proofs.YtgmnnpbbiejbnaaGreat.VaS Go.Proofs.YtgmnnpbbiejbnaaGreat.VaT Go.Proofs.YtgmnnpbbiejbnaaGreat.VaU Go.Proofs.YtgmnnpbbiejbnaaGreat.VaW Go.Proofs.YtgmnnpbbiejbnaaGreat.VbA Go.Proofs.YtgmnnpbbiejbnaaGreat.VbB Go.Proofs.YtgmnnpbbiejbnaaGreat.VcV

set_option maxHeartbeats 4000000 in
theorem decR_0 (s : ByteArray) (w : World) (hs : s.size ≤ 100000000) (K : Nat) (hK : K ≠ 1 ∧ K ≠ 2 ∧ K ≠ 3 ∧ K ≠ 4 ∧ K ≠ 5) (hKb : K ≤ 255) (k0 k1 N : Nat) (b0 b1 : Bool) (h0 : rnum s 1 (0, false) = (K, (k0, b0))) (h1 : rnum s 4 (k0, b0) = (N, (k1, b1))) (hN : N ≤ 4294967295) :
    Calls Tryz.prog 65 #[.string s] w (DecPost s w (decD s)) := by
  have hk0 : k0 ≤ s.size := by have h := rnum_le s 1 (0, false) (Nat.zero_le _); rwa [h0] at h
  have hk1 : k1 ≤ s.size := by have h := rnum_le s 4 (k0, b0) hk0; rwa [h1] at h
  have HR := Lib.hid (And.intro h0 h1)
  have hn0 := fun w' (h : Rdr 159 w' (w.heap.size + 1) s 0 false) => num_r (w.heap.size + 1) s 0 1 false w' h (Nat.zero_le _) (by omega) (by decide) (by decide) h0
  have hn1 := fun w' (h : Rdr 159 w' (w.heap.size + 1) s k0 b0) => num_r (w.heap.size + 1) s k0 4 b0 w' h hk0 (by omega) (by decide) (by decide) h1
  clear h0 h1
  obtain ⟨W0, hW0⟩ : ∃ W0, (w.alloc (.cells #[.int .i64 0, .string ⟨#[]⟩, .slice none 0 0, .slice none 0 0, .slice none 0 0] 42)).alloc (.cells #[.string s, .int .i64 0, .bool false] 159) = W0 := ⟨_, rfl⟩
  have B0 : Below w.heap.size w W0 := by rw [← hW0]; exact ((Below.refl _ w).alloc (Nat.le_refl _) _).alloc (by simp) _
  have S0 : W0.heap.size = w.heap.size + 2 := by rw [← hW0]; simp
  have z0 : Bv W0 w.heap.size 0 ⟨#[]⟩ (.slice none 0 0) (.slice none 0 0) (.slice none 0 0) := by
    rw [← hW0]
    exact ((Only.refl (fun _ => False) (w.alloc _)).alloc _).heap (heap_alloc_new w _) id
  have r0 : Rdr 159 W0 (w.heap.size + 1) s 0 false := by
    rw [← hW0]
    have h := heap_alloc_new (w.alloc (.cells #[.int .i64 0, .string ⟨#[]⟩, .slice none 0 0, .slice none 0 0, .slice none 0 0] 42)) (.cells #[.string s, .int .i64 0, .bool false] 159)
    rw [World.size_alloc] at h
    exact h
  have H0 := Lib.hid hW0
  clear hW0
  have HS0 := Lib.hid S0
  clear S0
  obtain ⟨Ki, hKi⟩ : ∃ Ki : Int, (K : Int) = Ki := ⟨_, rfl⟩
  have e1 : (Ki == 1) = false := by simp; omega
  have e2 : (Ki == 2) = false := by simp; omega
  have e3 : (Ki == 3) = false := by simp; omega
  have e4 : (Ki == 4) = false := by simp; omega
  have e5 : (Ki == 5) = false := by simp; omega
  have hKw : IntKind.i64.wrap (K : Int) = Ki := by rw [Go.IntWalk.i64_in _ (by omega)]; exact hKi
  have hcK : ¬ chk (bare Ki ⟨#[]⟩ [] [] []) = 0 := by unfold chk isK bare; simp; omega
  have HCK := Lib.hid (show ¬ chk (bare (K : Int) ⟨#[]⟩ [] [] []) = 0 by rw [hKi]; exact hcK)
  have HKK := Lib.hid (And.intro hK hKb)
  have hK1 := hK.1
  clear hKi
  go_enter Tryz.func65, Tryz.ntmps65
  go_wp2_with fail
  rw [H0.out]
  refine (hn0 W0 r0).mono ?_
  rintro e w1 ⟨rfl, r1, o1⟩
  have z1 := o1.heap z0 (by omega)
  have B1 := o1.after B0 (Nat.le_refl _) (fun b h => by omega)
  have hs1 := o1.size
  have hS := HS0.out
  have dw : Dw 159 w w1.heap.size s k0 b0 Ki ⟨#[]⟩ (.slice none 0 0) (.slice none 0 0) (.slice none 0 0) (w1.alloc (.cells #[.int .i64 Ki, .string ⟨#[]⟩, .slice none 0 0, .slice none 0 0, .slice none 0 0] 42)) :=
    ⟨((Only.refl (fun _ => False) w1).alloc _).heap r1 id, hk0, ((Only.refl (fun _ => False) w1).alloc _).heap z1 id, heap_alloc_new w1 _, B1.alloc (by omega) _, by omega⟩
  clear r0 r1 z0 z1 o1 hn0 hS hs1 B0 B1
  go_wp2_with fail
  have hdw := dw
  obtain ⟨g, hg⟩ : ∃ g, w1.heap.size = g := ⟨_, rfl⟩
  rw [hg] at dw ⊢
  clear hdw
  generalize w1.alloc (.cells #[.int .i64 Ki, .string ⟨#[]⟩, .slice none 0 0, .slice none 0 0, .slice none 0 0] 42) = W1 at dw ⊢
  refine (hn1 W1 dw.rd).mono ?_
  rintro e w2 ⟨rfl, r2, o2⟩
  have d2 := dw.read r2 hk1 o2
  clear hn1 r2 o2 dw hg hk0
  have HD : Hid (decD s = ⟨K, ⟨#[]⟩, rdN s K N ⟨k1, b1, [], [], []⟩⟩) := Lib.hid (by unfold decD; rw [HR.out.1]; dsimp only; rw [if_neg hK1, HR.out.2])
  clear HR hK hKb hK1 hKw
  go_wp2_with fail
  go_loopw [8] (fun n wr => ∃ m st, n = .int .u64 ((N - m : Nat) : Int) ∧ m ≤ N ∧ rdN s K m st = rdN s K N ⟨k1, b1, [], [], []⟩ ∧ (st.l = [] ∧ st.f = [] ∧ st.r = []) ∧ Dw 159 w g s st.k st.bad Ki ⟨#[]⟩ (.slice none 0 0) (.slice none 0 0) (.slice none 0 0) wr) (fun n _ => N - (intOf n).toNat)
  case atStart => exact ⟨N, _, by simp, Nat.le_refl _, rfl, ⟨rfl, rfl, rfl⟩, d2⟩
  case round =>
    obtain ⟨m, ⟨k, bad, l, f, r⟩, rfl, hm, hN', ⟨ho1, ho2, ho3⟩, D⟩ := hrel
    dsimp only at ho1 ho2 ho3 D
    subst ho1 ho2 ho3
    have HN := Lib.hid hN'
    clear hN' d2
    have c0 := D.rd.c0
    have c1 := D.rd.c1
    have c2 := D.rd.c2
    cases bad
    · rcases Nat.eq_zero_or_pos m with rfl | hpos
      · have HK : Hid (decD s = ⟨K, ⟨#[]⟩, ⟨k, false, [], [], []⟩⟩) := Lib.hid (by rw [HD.out, ← HN.out]; rfl)
        have RV : RdV wr ⟨Ki, ⟨#[]⟩, none, 0, 0, [], none, 0, 0, [], none, 0, 0, []⟩ := ⟨rd_nil0 _ _, rd_nil0 _ _, rd_nil0 _ _⟩
        have hck : Calls Tryz.prog 66 #[.agg #[.int .i64 Ki, .string ⟨#[]⟩, .slice none 0 0, .slice none 0 0, .slice none 0 0]] wr fun e w' => e = .returned (.int .i64 (chk ⟨Ki, ⟨#[]⟩, none, 0, 0, [], none, 0, 0, [], none, 0, 0, []⟩)) ∧ Below wr.heap.size wr w' := checkR_calls ⟨Ki, ⟨#[]⟩, none, 0, 0, [], none, 0, 0, [], none, 0, 0, []⟩ wr RV (Nat.zero_le _)
        have HCE : Hid (chk ⟨Ki, ⟨#[]⟩, none, 0, 0, [], none, 0, 0, [], none, 0, 0, []⟩ = chk (bare Ki ⟨#[]⟩ [] [] [])) := Lib.hid (by rfl)
        rw [HCE.out] at hck
        obtain ⟨x0, x1, x2, x3, x4⟩ := D.x.cells
        have hcnd : decide (((N - 0 : Nat) : Int) < (N : Int)) = false := by simp
        have HOK : Hid ((decD s).ok = false) := Lib.hid (by rw [HK.out]; unfold Dc.ok Dc.v; simp; exact HCK.out)
        have hne : decide (chk (bare Ki ⟨#[]⟩ [] [] []) = 0) = false := by simpa using hcK
        go_wp2_with fail
        refine hck.mono ?_
        rintro e w4 ⟨rfl, b4⟩
        have D4 : Dw 159 w g s k false Ki ⟨#[]⟩ (.slice none 0 0) (.slice none 0 0) (.slice none 0 0) w4 := D.grow (Only.of_below b4) (fun b hb => by have := D.gz; omega)
        clear c0 c1 c2 x0 x1 x2 x3 x4 hck RV b4
        obtain ⟨z0, z1, z2, z3, z4⟩ := D4.z.cells
        have f0 := D4.z.free 0
        have f1 := D4.z.free 1
        have f2 := D4.z.free 2
        have f3 := D4.z.free 3
        have f4 := D4.z.free 4
        go_wp2_with fail
        have OF := onlyh (h := w.heap.size) (wr := w4) (.int .i64 0) (.string ⟨#[]⟩) (.slice none 0 0) (.slice none 0 0) (.slice none 0 0)
        have ZF := bv_set (k' := 0) (t' := ⟨#[]⟩) D4.z (.slice none 0 0) (.slice none 0 0) (.slice none 0 0)
        generalize ((((w4.setCell ⟨w.heap.size, 0, none⟩ (.int .i64 0)).setCell ⟨w.heap.size, 1, none⟩ (.string ⟨#[]⟩)).setCell ⟨w.heap.size, 2, none⟩ (.slice none 0 0)).setCell ⟨w.heap.size, 3, none⟩ (.slice none 0 0)).setCell ⟨w.heap.size, 4, none⟩ (.slice none 0 0) = wF at OF ZF ⊢
        obtain ⟨t0, t1, t2, t3, t4⟩ := ZF.cells
        exact bodyPost_ret (v := .tuple #[.agg #[.int .i64 0, .string ⟨#[]⟩, .slice none 0 0, .slice none 0 0, .slice none 0 0], .int .i64 0, .int .i64 132]) (by simp [results, Tryz.f65, go_sem, t0, t1, t2, t3, t4]) rfl (post_no HOK.out (OF.after D4.b (Nat.le_refl _) (fun b h => Nat.le_of_eq h.symm)))
      · obtain ⟨m', rfl⟩ : ∃ m', m = m' + 1 := ⟨m - 1, by omega⟩
        obtain ⟨i, hi⟩ : ∃ i, N - (m' + 1) = i := ⟨_, rfl⟩
        have hiN : i < N := by omega
        have hie : N - m' = i + 1 := by omega
        rw [hi]
        have HI := Lib.hid (And.intro hi hie)
        clear hi hie
        have hmi : (i : Int) < (N : Int) := by omega
        have hm2 : (i : Int) ≤ 4294967295 := by omega
        have hnb : (N : Int) ≤ 4294967295 := by omega
        have f2 := D.rd.f2
        have x0 := D.x.cells.1
        go_wp2_with fail
        exact ⟨⟨m', ⟨k, true, [], [], []⟩, by rw [HI.out.2]; simp, by omega, rdN_step (by unfold rd1; rw [if_neg (fun h => h.elim HKK.out.1.2.1 HKK.out.1.2.2.2.1), if_neg HKK.out.1.2.2.1, if_neg HKK.out.1.2.2.2.2]) HN.out, ⟨rfl, rfl, rfl⟩, D.bads⟩, by simp [intOf]; omega⟩
    · have HOK : Hid ((decD s).ok = false) := Lib.hid (by rw [HD.out, ← HN.out, rdN_bad rfl]; rfl)
      obtain ⟨z0, z1, z2, z3, z4⟩ := D.z.cells
      have f0 := D.z.free 0
      have f1 := D.z.free 1
      have f2 := D.z.free 2
      have f3 := D.z.free 3
      have f4 := D.z.free 4
      have OF := onlyh (h := w.heap.size) (wr := wr) (.int .i64 0) (.string ⟨#[]⟩) (.slice none 0 0) (.slice none 0 0) (.slice none 0 0)
      have ZF := bv_set (k' := 0) (t' := ⟨#[]⟩) D.z (.slice none 0 0) (.slice none 0 0) (.slice none 0 0)
      obtain ⟨t0, t1, t2, t3, t4⟩ := ZF.cells
      have HF := Lib.hid (And.intro OF (And.intro ZF (And.intro t0 (And.intro t1 (And.intro t2 (And.intro t3 t4))))))
      clear OF ZF t0 t1 t2 t3 t4
      obtain ⟨i, hi⟩ : ∃ i, N - m = i := ⟨_, rfl⟩
      have hiN : (i : Int) ≤ (N : Int) := by omega
      have hnb : (N : Int) ≤ 4294967295 := by omega
      rw [hi]
      clear hi
      go_wp2_with fail
      all_goals (
        obtain ⟨OF, ZF, -⟩ := HF.out
        generalize ((((wr.setCell ⟨w.heap.size, 0, none⟩ (.int .i64 0)).setCell ⟨w.heap.size, 1, none⟩ (.string ⟨#[]⟩)).setCell ⟨w.heap.size, 2, none⟩ (.slice none 0 0)).setCell ⟨w.heap.size, 3, none⟩ (.slice none 0 0)).setCell ⟨w.heap.size, 4, none⟩ (.slice none 0 0) = wF at OF ZF ⊢
        obtain ⟨t0, t1, t2, t3, t4⟩ := ZF.cells
        exact bodyPost_ret (v := .tuple #[.agg #[.int .i64 0, .string ⟨#[]⟩, .slice none 0 0, .slice none 0 0, .slice none 0 0], .int .i64 0, .int .i64 132]) (by simp [results, Tryz.f65, go_sem, t0, t1, t2, t3, t4]) rfl (post_no HOK.out (OF.after D.b (Nat.le_refl _) (fun b h => Nat.le_of_eq h.symm))))
end Go.Proofs.YtgmnnpbbiejbnaaGreat.VcJ
