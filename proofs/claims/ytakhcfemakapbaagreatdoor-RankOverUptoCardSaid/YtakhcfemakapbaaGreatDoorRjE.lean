/-
  The document's Scores, Names. Conditions: as stated.
-/
import Derived.Test.YtakhcfemakapbaaGreatDoorRgI
import Derived.Test.YtakhcfemakapbaaGreatDoorRgF
import Derived.BigQuiet
set_option maxRecDepth 100000
set_option linter.unusedSimpArgs false
set_option linter.unusedVariables false
namespace Go.Proofs.YtakhcfemakapbaaGreatDoor.RjE
open Go Go.RowKit Go.Shelf Go.Sort Go.Proofs.YtakhcfemakapbaaGreatDoor.Mem Go.Proofs.YtakhcfemakapbaaGreatDoor.DuA Go.Proofs.YtakhcfemakapbaaGreatDoor.DuM Go.Proofs.YtakhcfemakapbaaGreatDoor.DuN Go.Proofs.YtakhcfemakapbaaGreatDoor.RkA Go.Proofs.YtakhcfemakapbaaGreatDoor.RkC Go.Proofs.YtakhcfemakapbaaGreatDoor.RkB Go.Proofs.YtakhcfemakapbaaGreatDoor.RkE Go.Proofs.YtakhcfemakapbaaGreatDoor.RkF Go.Proofs.YtakhcfemakapbaaGreatDoor.RkI Go.Proofs.YtakhcfemakapbaaGreatDoor.RkM Go.Proofs.YtakhcfemakapbaaGreatDoor.RkP Go.Proofs.YtakhcfemakapbaaGreatDoor.RkR Go.Proofs.YtakhcfemakapbaaGreatDoor.RkS Go.Proofs.YtakhcfemakapbaaGreatDoor.RkU Go.Proofs.YtakhcfemakapbaaGreatDoor.RjB Go.Proofs.YtakhcfemakapbaaGreatDoor.RjD

theorem fil_next {l : List En} {p : En → Bool} {j : Nat} {y : En} (hy : l[j]? = some y) : (l.take (j + 1)).filter p = (l.take j).filter p ++ (if p y = true then [y] else []) := by
  rw [List.take_add_one, hy, List.filter_append]
  simp only [Option.toList_some, List.filter_cons, List.filter_nil]
set_option maxHeartbeats 400000 in
theorem scoresR_calls (A : Option Addr) (n c : Nat) (l : List En) (lo hi : Bd) (rev : Bool) (skip most : Int) (w : World) (hr : RdE w A n c l) (hn : n ≤ 1000000000) (hs : inI skip) (hm : inI most) (hlo : inI lo.inf) (hhi : inI hi.inf) :
    Calls Tryz.prog 43 #[.slice A n c, bV lo, bV hi, .bool rev, .int .i64 skip, .int .i64 most] w fun e w' => ∃ A' n' c', e = .returned (.slice A' n' c') ∧ RdE w' A' n' c' (partL l (inS lo hi) rev skip most) ∧ Below w.heap.size w w' := by
  obtain rfl := rde_len hr
  unfold partL
  rw [part_way]
  have b1 : Below w.heap.size w (w.alloc (bo lo)) := al _ _
  have b2 : Below (w.alloc (bo lo)).heap.size (w.alloc (bo lo)) ((w.alloc (bo lo)).alloc (bo hi)) := al _ _
  have bb := b1.trans (b2.mono b1.size)
  have x1 := (bx_new w lo).below b2
  have x2 := bx_new (w.alloc (bo lo)) hi
  rw [World.size_alloc] at x2
  have HS := Lib.hid (And.intro hs (And.intro hm (And.intro hlo hhi)))
  have mixed : Tryz.prog.follows .mixedOrders = true := by kernel_rfl
  obtain ⟨W2, hW2⟩ : ∃ W2, W2 = (w.alloc (bo lo)).alloc (bo hi) := ⟨_, rfl⟩
  rw [← hW2] at bb x1 x2
  have HX := Lib.hid (And.intro hr (And.intro x1 (And.intro x2 bb)))
  clear x1 x2 bb b1 b2 hr hs hm hlo hhi
  obtain ⟨P, hP⟩ : ∃ P, P = inS lo hi := ⟨_, rfl⟩
  rw [← hP]
  have HP := Lib.hid hP
  clear hP
  obtain ⟨T, hT⟩ : ∃ T, T = cutL (wayL (l.filter P) rev) skip most := ⟨_, rfl⟩
  rw [← hT]
  have HT := Lib.hid hT
  clear hT
  go_enter Tryz.func43, Tryz.ntmps43
  go_upto_region 1 with fail
  rw [← hW2]
  clear hW2
  go_wp2_with fail
  go_loopw [13, 14] (fun ov iv wr => ∃ (j : Nat) (O : List En), iv = .int .i64 j ∧ j ≤ l.length ∧ O.length ≤ j ∧ Hid (OwnE wr W2.heap.size ov O ∧ Below W2.heap.size W2 wr ∧ O = (l.take j).filter P)) (fun _ iv _ => l.length - (RowKit.intOf iv).toNat)
  case atStart => exact ⟨0, [], rfl, Nat.zero_le _, Nat.le_refl _, Lib.hid ⟨World.ownsRow_nil _ _ _ _, Below.refl _ _, by simp⟩⟩
  case round =>
    obtain ⟨j, O, rfl, hj, hOj, hX⟩ := hrel
    obtain ⟨A2, c2, rfl⟩ := own_form hX.out.1
    have bw := HX.out.2.2.2.trans (hX.out.2.1.mono HX.out.2.2.2.size)
    have hr := HX.out.1.below bw
    by_cases hlt : j < l.length
    · obtain ⟨y, hy⟩ : ∃ y, l[j]? = some y := ⟨_, List.getElem?_eq_getElem hlt⟩
      have hfn := fil_next (p := P) hy
      obtain ⟨q, rfl, x0, x1⟩ := rde_get hr hy
      have bp := HX.out.2.1.below hX.out.2.1
      have bq := HX.out.2.2.1.below hX.out.2.1
      have c0 := fun n os => cell_grown (cell_lt x0) x0 n os
      have c1 := fun n os => cell_grown (cell_lt x1) x1 n os
      have p0 := fun n os => (bp.gr n os).c0
      have p1 := fun n os => (bp.gr n os).c1
      have p2 := fun n os => (bp.gr n os).c2
      have p3 := fun n os => (bp.gr n os).c3
      have q0 := fun n os => (bq.gr n os).c0
      have q1 := fun n os => (bq.gr n os).c1
      have q2 := fun n os => (bq.gr n os).c2
      have q3 := fun n os => (bq.gr n os).c3
      obtain ⟨ys, yn⟩ := y
      simp only at c0 c1 p0 p1 p2 p3 q0 q1 q2 q3
      obtain ⟨C1, hC1⟩ : ∃ C1, C1 = cmpI ys lo.score := ⟨_, rfl⟩
      obtain ⟨C2, hC2⟩ : ∃ C2, C2 = cmpI ys hi.score := ⟨_, rfl⟩
      have hcl := fun (n : Nat) (os : Array Obj) => orderR_grown ys lo.score (grow (wr.drewN n) os)
      have hch := fun (n : Nat) (os : Array Obj) => orderR_grown ys hi.score (grow (wr.drewN n) os)
      have k1 : -1 ≤ C1 ∧ C1 ≤ 1 := by rw [hC1]; exact cmpI_in _ _
      have k2 : -1 ≤ C2 ∧ C2 ≤ 1 := by rw [hC2]; exact cmpI_in _ _
      have hPy : P (ys, yn) = (letB lo C1 true && letB hi C2 false) := by rw [HP.out, hC1, hC2]; rfl
      simp only [← hC1] at hcl
      simp only [← hC2] at hch
      clear hC1 hC2
      obtain ⟨R1, hR1⟩ : ∃ R1, R1 = letB lo C1 true := ⟨_, rfl⟩
      obtain ⟨R2, hR2⟩ : ∃ R2, R2 = letB hi C2 false := ⟨_, rfl⟩
      have hlo := fun (n : Nat) (os : Array Obj) => letsR_grown lo C1 true (grow (wr.drewN n) os) HS.out.2.2.1 k1
      have hhi := fun (n : Nat) (os : Array Obj) => letsR_grown hi C2 false (grow (wr.drewN n) os) HS.out.2.2.2 k2
      rw [← hR1, ← hR2] at hPy
      simp only [← hR1] at hlo
      simp only [← hR2] at hhi
      rw [hPy] at hfn
      have HFN := Lib.hid hfn
      have HY := Lib.hid (And.intro x0 x1)
      have HB := Lib.hid bw
      clear hR1 hR2 hPy hfn k1 k2 bp bq hr bw x0 x1 hy
      have NO : (R1 && R2) = false → ∀ (m : Nat) (os : Array Obj), Hid (OwnE (grow (wr.drewN m) os) W2.heap.size (.slice A2 O.length c2) O ∧ Below W2.heap.size W2 (grow (wr.drewN m) os) ∧ O = (l.take (j + 1)).filter P) := fun hR m os =>
        Lib.hid ⟨own_only hX.out.1 (only_b (S := fun _ => False) (below_grow_ m os)) (fun _ _ => id), hX.out.2.1.trans ((below_grow_ m os).mono hX.out.2.1.size), by rw [HFN.out, hR, hX.out.2.2]; simp⟩
      cases R1
      · have HN := NO (Bool.false_and _)
        clear NO
        go_upto_region 5 with fail
        (refine wp_region_quiet_grown (by assumption) (by kernel_rfl) ?_; (repeat (go_big_quiet_step (first | (go_at_call 68; with_reducible refine Calls.grown_of (hcl _ _)) | (go_at_call 68; refine Calls.grown_of (hch _ _)) | (go_at_call 67; with_reducible refine Calls.grown_of (hlo _ _)) | (go_at_call 67; refine Calls.grown_of (hhi _ _))))); refine wpQuiet_nil ?_; intro _ hw'; obtain ⟨⟨nq, osq⟩, hw''⟩ := hw'; subst hw'')
        go_wp2_with fail
        exact ⟨⟨j + 1, O, by simp, by omega, by omega, HN nq osq⟩, by simp [RowKit.intOf]; omega⟩
      · cases R2
        · have HN := NO (Bool.and_false _)
          clear NO
          go_upto_region 5 with fail
          (refine wp_region_quiet_grown (by assumption) (by kernel_rfl) ?_; (repeat (go_big_quiet_step (first | (go_at_call 68; with_reducible refine Calls.grown_of (hcl _ _)) | (go_at_call 68; refine Calls.grown_of (hch _ _)) | (go_at_call 67; with_reducible refine Calls.grown_of (hlo _ _)) | (go_at_call 67; refine Calls.grown_of (hhi _ _))))); refine wpQuiet_nil ?_; intro _ hw'; obtain ⟨⟨nq, osq⟩, hw''⟩ := hw'; subst hw'')
          go_wp2_with fail
          exact ⟨⟨j + 1, O, by simp, by omega, by omega, HN nq osq⟩, by simp [RowKit.intOf]; omega⟩
        · clear NO
          go_upto_region 5 with fail
          (refine wp_region_quiet_grown (by assumption) (by kernel_rfl) ?_; (repeat (go_big_quiet_step (first | (go_at_call 68; with_reducible refine Calls.grown_of (hcl _ _)) | (go_at_call 68; refine Calls.grown_of (hch _ _)) | (go_at_call 67; with_reducible refine Calls.grown_of (hlo _ _)) | (go_at_call 67; refine Calls.grown_of (hhi _ _))))); refine wpQuiet_nil ?_; intro _ hw'; obtain ⟨⟨nq, osq⟩, hw''⟩ := hw'; subst hw'')
          obtain ⟨Wg, hWg⟩ : ∃ Wg, Wg = grow (wr.drewN nq) osq := ⟨_, rfl⟩
          rw [← hWg]
          have bg : Below wr.heap.size wr Wg := by rw [hWg]; exact below_grow_ _ _
          have x0 := cell_b HY.out.1 bg
          have x1 := cell_b HY.out.2 bg
          have hbb := HB.out.trans (bg.mono HB.out.size)
          have ho4 := own_only (w' := Wg.alloc (eo (ys, yn))) hX.out.1 (only_b (S := fun _ => False) (bg.trans ((al Wg _).mono bg.size))) (fun _ _ => id)
          have hrv : RdE (Wg.alloc (eo (ys, yn))) (some ⟨Wg.heap.size, 0, none⟩) 1 1 [(ys, yn)] := One.rd ⟨heap_alloc_new Wg (eo (ys, yn))⟩
          have hbs : W2.heap.size ≤ Wg.heap.size := Nat.le_trans hX.out.2.1.size bg.size
          have HG := Lib.hid (And.intro bg hbb)
          clear c0 c1 p0 p1 p2 p3 q0 q1 q2 q3 hcl hch hlo hhi hWg bg hbb
          go_wp2_with (at_builtin; refine wpList_app rfl (.tmp 43) (.tmp 48) elE rfl W2.heap.size _ O.length _ rfl ho4 (some ⟨Wg.heap.size, 0, none⟩) 1 1 (ents [(ys, yn)]) rfl hrv (ents_one _) (by unfold maxLen; omega) (by omega) (by simp; omega) ?_; intro v5 w5 o5 O5 hv5)
          have o6 : OwnE w5 W2.heap.size v5 (O ++ [(ys, yn)]) := by
            unfold OwnE
            rw [List.length_append, ents_app]
            exact o5
          have bW : Below W2.heap.size W2 (Wg.alloc (eo (ys, yn))) := by
            have h1 := hX.out.2.1.trans (HG.out.1.mono hX.out.2.1.size)
            exact h1.trans ((al Wg _).mono h1.size)
          have b6 : Below W2.heap.size W2 w5 := O5.after bW (Nat.le_refl _) (fun k hk => (hX.out.1.lt k hk).1)
          exact ⟨⟨j + 1, O ++ [(ys, yn)], by simp, by omega, by simp; omega, Lib.hid ⟨o6, b6, by rw [HFN.out, hX.out.2.2]; simp⟩⟩, by simp [RowKit.intOf]; omega⟩
    · obtain rfl : j = l.length := by omega
      have hO : l.filter P = O := by rw [hX.out.2.2, List.take_length]
      have hw := way_calls A2 O.length c2 O rev wr (Rd.of_own hX.out.1) (by omega)
      have hwl : (wayL O rev).length ≤ 1000000000 := by rw [way_len]; omega
      obtain ⟨L, hL⟩ : ∃ L, L = wayL O rev := ⟨_, rfl⟩
      have hTL := HT.out
      rw [hO, ← hL] at hTL
      have HTL := Lib.hid hTL
      rw [← hL] at hw hwl
      clear hTL
      have HW := Lib.hid (And.intro bw hwl)
      clear hL hwl bw hr hO mixed
      go_wp2_with fail
      refine hw.mono ?_
      clear hw
      rintro e w5 ⟨A5, n5, c5, rfl, r5, b5⟩
      have hct := cutR_calls A5 n5 c5 L skip most w5 r5 (by rw [← rde_len r5]; exact HW.out.2) HS.out.1 HS.out.2.1
      have HB := Lib.hid (HW.out.1.trans (b5.mono HW.out.1.size))
      clear b5 r5
      go_wp2_with fail
      refine hct.mono ?_
      clear hct
      rintro e w6 ⟨A6, n6, c6, rfl, r6, hw6⟩
      subst hw6
      go_wp2_with fail
      go_ret
      exact ⟨_, _, _, rfl, by rw [HTL.out]; exact r6, HB.out⟩
set_option maxHeartbeats 400000 in
theorem namesR_calls (A : Option Addr) (n c : Nat) (l : List En) (lo hi : Bd) (rev : Bool) (skip most : Int) (w : World) (hr : RdE w A n c l) (hn : n ≤ 1000000000) (hs : inI skip) (hm : inI most) (hlo : inI lo.inf) (hhi : inI hi.inf) :
    Calls Tryz.prog 44 #[.slice A n c, bV lo, bV hi, .bool rev, .int .i64 skip, .int .i64 most] w fun e w' => ∃ A' n' c', e = .returned (.slice A' n' c') ∧ RdE w' A' n' c' (partL l (inN lo hi) rev skip most) ∧ Below w.heap.size w w' := by
  obtain rfl := rde_len hr
  unfold partL
  rw [part_way]
  have b1 : Below w.heap.size w (w.alloc (bo lo)) := al _ _
  have b2 : Below (w.alloc (bo lo)).heap.size (w.alloc (bo lo)) ((w.alloc (bo lo)).alloc (bo hi)) := al _ _
  have bb := b1.trans (b2.mono b1.size)
  have x1 := (bx_new w lo).below b2
  have x2 := bx_new (w.alloc (bo lo)) hi
  rw [World.size_alloc] at x2
  have HS := Lib.hid (And.intro hs (And.intro hm (And.intro hlo hhi)))
  have mixed : Tryz.prog.follows .mixedOrders = true := by kernel_rfl
  obtain ⟨W2, hW2⟩ : ∃ W2, W2 = (w.alloc (bo lo)).alloc (bo hi) := ⟨_, rfl⟩
  rw [← hW2] at bb x1 x2
  have HX := Lib.hid (And.intro hr (And.intro x1 (And.intro x2 bb)))
  clear x1 x2 bb b1 b2 hr hs hm hlo hhi
  obtain ⟨P, hP⟩ : ∃ P, P = inN lo hi := ⟨_, rfl⟩
  rw [← hP]
  have HP := Lib.hid hP
  clear hP
  obtain ⟨T, hT⟩ : ∃ T, T = cutL (wayL (l.filter P) rev) skip most := ⟨_, rfl⟩
  rw [← hT]
  have HT := Lib.hid hT
  clear hT
  go_enter Tryz.func44, Tryz.ntmps44
  go_upto_region 1 with fail
  rw [← hW2]
  clear hW2
  go_wp2_with fail
  go_loopw [13, 14] (fun ov iv wr => ∃ (j : Nat) (O : List En), iv = .int .i64 j ∧ j ≤ l.length ∧ O.length ≤ j ∧ Hid (OwnE wr W2.heap.size ov O ∧ Below W2.heap.size W2 wr ∧ O = (l.take j).filter P)) (fun _ iv _ => l.length - (RowKit.intOf iv).toNat)
  case atStart => exact ⟨0, [], rfl, Nat.zero_le _, Nat.le_refl _, Lib.hid ⟨World.ownsRow_nil _ _ _ _, Below.refl _ _, by simp⟩⟩
  case round =>
    obtain ⟨j, O, rfl, hj, hOj, hX⟩ := hrel
    obtain ⟨A2, c2, rfl⟩ := own_form hX.out.1
    have bw := HX.out.2.2.2.trans (hX.out.2.1.mono HX.out.2.2.2.size)
    have hr := HX.out.1.below bw
    by_cases hlt : j < l.length
    · obtain ⟨y, hy⟩ : ∃ y, l[j]? = some y := ⟨_, List.getElem?_eq_getElem hlt⟩
      have hfn := fil_next (p := P) hy
      obtain ⟨q, rfl, x0, x1⟩ := rde_get hr hy
      have bp := HX.out.2.1.below hX.out.2.1
      have bq := HX.out.2.2.1.below hX.out.2.1
      have c0 := fun n os => cell_grown (cell_lt x0) x0 n os
      have c1 := fun n os => cell_grown (cell_lt x1) x1 n os
      have p0 := fun n os => (bp.gr n os).c0
      have p1 := fun n os => (bp.gr n os).c1
      have p2 := fun n os => (bp.gr n os).c2
      have p3 := fun n os => (bp.gr n os).c3
      have q0 := fun n os => (bq.gr n os).c0
      have q1 := fun n os => (bq.gr n os).c1
      have q2 := fun n os => (bq.gr n os).c2
      have q3 := fun n os => (bq.gr n os).c3
      obtain ⟨ys, yn⟩ := y
      simp only at c0 c1 p0 p1 p2 p3 q0 q1 q2 q3
      obtain ⟨C1, hC1⟩ : ∃ C1, C1 = cmpT yn lo.name := ⟨_, rfl⟩
      obtain ⟨C2, hC2⟩ : ∃ C2, C2 = cmpT yn hi.name := ⟨_, rfl⟩
      have hcl := fun (n : Nat) (os : Array Obj) => textsR_grown yn lo.name (grow (wr.drewN n) os)
      have hch := fun (n : Nat) (os : Array Obj) => textsR_grown yn hi.name (grow (wr.drewN n) os)
      have k1 : -1 ≤ C1 ∧ C1 ≤ 1 := by rw [hC1]; exact cmpT_in _ _
      have k2 : -1 ≤ C2 ∧ C2 ≤ 1 := by rw [hC2]; exact cmpT_in _ _
      have hPy : P (ys, yn) = (letB lo C1 true && letB hi C2 false) := by rw [HP.out, hC1, hC2]; rfl
      simp only [← hC1] at hcl
      simp only [← hC2] at hch
      clear hC1 hC2
      obtain ⟨R1, hR1⟩ : ∃ R1, R1 = letB lo C1 true := ⟨_, rfl⟩
      obtain ⟨R2, hR2⟩ : ∃ R2, R2 = letB hi C2 false := ⟨_, rfl⟩
      have hlo := fun (n : Nat) (os : Array Obj) => letsR_grown lo C1 true (grow (wr.drewN n) os) HS.out.2.2.1 k1
      have hhi := fun (n : Nat) (os : Array Obj) => letsR_grown hi C2 false (grow (wr.drewN n) os) HS.out.2.2.2 k2
      rw [← hR1, ← hR2] at hPy
      simp only [← hR1] at hlo
      simp only [← hR2] at hhi
      rw [hPy] at hfn
      have HFN := Lib.hid hfn
      have HY := Lib.hid (And.intro x0 x1)
      have HB := Lib.hid bw
      clear hR1 hR2 hPy hfn k1 k2 bp bq hr bw x0 x1 hy
      have NO : (R1 && R2) = false → ∀ (m : Nat) (os : Array Obj), Hid (OwnE (grow (wr.drewN m) os) W2.heap.size (.slice A2 O.length c2) O ∧ Below W2.heap.size W2 (grow (wr.drewN m) os) ∧ O = (l.take (j + 1)).filter P) := fun hR m os =>
        Lib.hid ⟨own_only hX.out.1 (only_b (S := fun _ => False) (below_grow_ m os)) (fun _ _ => id), hX.out.2.1.trans ((below_grow_ m os).mono hX.out.2.1.size), by rw [HFN.out, hR, hX.out.2.2]; simp⟩
      cases R1
      · have HN := NO (Bool.false_and _)
        clear NO
        go_upto_region 5 with fail
        (refine wp_region_quiet_grown (by assumption) (by kernel_rfl) ?_; (repeat (go_big_quiet_step (first | (go_at_call 70; with_reducible refine Calls.grown_of (hcl _ _)) | (go_at_call 70; refine Calls.grown_of (hch _ _)) | (go_at_call 67; with_reducible refine Calls.grown_of (hlo _ _)) | (go_at_call 67; refine Calls.grown_of (hhi _ _))))); refine wpQuiet_nil ?_; intro _ hw'; obtain ⟨⟨nq, osq⟩, hw''⟩ := hw'; subst hw'')
        go_wp2_with fail
        exact ⟨⟨j + 1, O, by simp, by omega, by omega, HN nq osq⟩, by simp [RowKit.intOf]; omega⟩
      · cases R2
        · have HN := NO (Bool.and_false _)
          clear NO
          go_upto_region 5 with fail
          (refine wp_region_quiet_grown (by assumption) (by kernel_rfl) ?_; (repeat (go_big_quiet_step (first | (go_at_call 70; with_reducible refine Calls.grown_of (hcl _ _)) | (go_at_call 70; refine Calls.grown_of (hch _ _)) | (go_at_call 67; with_reducible refine Calls.grown_of (hlo _ _)) | (go_at_call 67; refine Calls.grown_of (hhi _ _))))); refine wpQuiet_nil ?_; intro _ hw'; obtain ⟨⟨nq, osq⟩, hw''⟩ := hw'; subst hw'')
          go_wp2_with fail
          exact ⟨⟨j + 1, O, by simp, by omega, by omega, HN nq osq⟩, by simp [RowKit.intOf]; omega⟩
        · clear NO
          go_upto_region 5 with fail
          (refine wp_region_quiet_grown (by assumption) (by kernel_rfl) ?_; (repeat (go_big_quiet_step (first | (go_at_call 70; with_reducible refine Calls.grown_of (hcl _ _)) | (go_at_call 70; refine Calls.grown_of (hch _ _)) | (go_at_call 67; with_reducible refine Calls.grown_of (hlo _ _)) | (go_at_call 67; refine Calls.grown_of (hhi _ _))))); refine wpQuiet_nil ?_; intro _ hw'; obtain ⟨⟨nq, osq⟩, hw''⟩ := hw'; subst hw'')
          obtain ⟨Wg, hWg⟩ : ∃ Wg, Wg = grow (wr.drewN nq) osq := ⟨_, rfl⟩
          rw [← hWg]
          have bg : Below wr.heap.size wr Wg := by rw [hWg]; exact below_grow_ _ _
          have x0 := cell_b HY.out.1 bg
          have x1 := cell_b HY.out.2 bg
          have hbb := HB.out.trans (bg.mono HB.out.size)
          have ho4 := own_only (w' := Wg.alloc (eo (ys, yn))) hX.out.1 (only_b (S := fun _ => False) (bg.trans ((al Wg _).mono bg.size))) (fun _ _ => id)
          have hrv : RdE (Wg.alloc (eo (ys, yn))) (some ⟨Wg.heap.size, 0, none⟩) 1 1 [(ys, yn)] := One.rd ⟨heap_alloc_new Wg (eo (ys, yn))⟩
          have hbs : W2.heap.size ≤ Wg.heap.size := Nat.le_trans hX.out.2.1.size bg.size
          have HG := Lib.hid (And.intro bg hbb)
          clear c0 c1 p0 p1 p2 p3 q0 q1 q2 q3 hcl hch hlo hhi hWg bg hbb
          go_wp2_with (at_builtin; refine wpList_app rfl (.tmp 43) (.tmp 48) elE rfl W2.heap.size _ O.length _ rfl ho4 (some ⟨Wg.heap.size, 0, none⟩) 1 1 (ents [(ys, yn)]) rfl hrv (ents_one _) (by unfold maxLen; omega) (by omega) (by simp; omega) ?_; intro v5 w5 o5 O5 hv5)
          have o6 : OwnE w5 W2.heap.size v5 (O ++ [(ys, yn)]) := by
            unfold OwnE
            rw [List.length_append, ents_app]
            exact o5
          have bW : Below W2.heap.size W2 (Wg.alloc (eo (ys, yn))) := by
            have h1 := hX.out.2.1.trans (HG.out.1.mono hX.out.2.1.size)
            exact h1.trans ((al Wg _).mono h1.size)
          have b6 : Below W2.heap.size W2 w5 := O5.after bW (Nat.le_refl _) (fun k hk => (hX.out.1.lt k hk).1)
          exact ⟨⟨j + 1, O ++ [(ys, yn)], by simp, by omega, by simp; omega, Lib.hid ⟨o6, b6, by rw [HFN.out, hX.out.2.2]; simp⟩⟩, by simp [RowKit.intOf]; omega⟩
    · obtain rfl : j = l.length := by omega
      have hO : l.filter P = O := by rw [hX.out.2.2, List.take_length]
      have hw := way_calls A2 O.length c2 O rev wr (Rd.of_own hX.out.1) (by omega)
      have hwl : (wayL O rev).length ≤ 1000000000 := by rw [way_len]; omega
      obtain ⟨L, hL⟩ : ∃ L, L = wayL O rev := ⟨_, rfl⟩
      have hTL := HT.out
      rw [hO, ← hL] at hTL
      have HTL := Lib.hid hTL
      rw [← hL] at hw hwl
      clear hTL
      have HW := Lib.hid (And.intro bw hwl)
      clear hL hwl bw hr hO mixed
      go_wp2_with fail
      refine hw.mono ?_
      clear hw
      rintro e w5 ⟨A5, n5, c5, rfl, r5, b5⟩
      have hct := cutR_calls A5 n5 c5 L skip most w5 r5 (by rw [← rde_len r5]; exact HW.out.2) HS.out.1 HS.out.2.1
      have HB := Lib.hid (HW.out.1.trans (b5.mono HW.out.1.size))
      clear b5 r5
      go_wp2_with fail
      refine hct.mono ?_
      clear hct
      rintro e w6 ⟨A6, n6, c6, rfl, r6, hw6⟩
      subst hw6
      go_wp2_with fail
      go_ret
      exact ⟨_, _, _, rfl, by rw [HTL.out]; exact r6, HB.out⟩
end Go.Proofs.YtakhcfemakapbaaGreatDoor.RjE
