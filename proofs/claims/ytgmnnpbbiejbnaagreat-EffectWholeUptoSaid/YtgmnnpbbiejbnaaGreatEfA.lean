/-
  May an effect be: the program's may, the document's May. Conditions: as stated.
-/
import Derived.Test.YtgmnnpbbiejbnaaGreatSqB
import Derived.Test.YtgmnnpbbiejbnaaGreatVcO
import Derived.Test.YtgmnnpbbiejbnaaGreatVaU
set_option maxRecDepth 100000
set_option linter.unusedSimpArgs false
set_option linter.unusedVariables false
namespace Go.Proofs.YtgmnnpbbiejbnaaGreat.EfA
open Go.RowKit Go.Proofs.YtgmnnpbbiejbnaaGreat.Mem Go.Proofs.YtgmnnpbbiejbnaaGreat.VaC Go.Proofs.YtgmnnpbbiejbnaaGreat.VaE Go.Proofs.YtgmnnpbbiejbnaaGreat.VaH Go.Proofs.YtgmnnpbbiejbnaaGreat.VaI Go.Proofs.YtgmnnpbbiejbnaaGreat.VaX Go.Proofs.YtgmnnpbbiejbnaaGreat.DuA Go.Proofs.YtgmnnpbbiejbnaaGreat.SpA Go.Proofs.YtgmnnpbbiejbnaaGreat.SpB Go.Proofs.YtgmnnpbbiejbnaaGreat.SpC Go.Proofs.YtgmnnpbbiejbnaaGreat.SpD Go.Proofs.YtgmnnpbbiejbnaaGreat.SpE Go.Proofs.YtgmnnpbbiejbnaaGreat.SpF Go.Proofs.YtgmnnpbbiejbnaaGreat.SpG
open Go.Proofs.YtgmnnpbbiejbnaaGreat.VcO (sameP_calls)
open Go.Proofs.YtgmnnpbbiejbnaaGreat.VaU (checkR_calls)

/-- May an effect be? -/
def mayP (e : PE) : Bool :=
  if e.kind = 1 then decide (chkP e.v = 0) && tickB e.due else if e.kind = 2 then decide (e.v = pv0) && decide (e.due = 0) else if e.kind = 3 then decide (e.v = pv0) && tickB e.due else if e.kind = 4 then decide (e.v = pv0) && decide (e.due = 0) && decide (e.key = ⟨#[]⟩) else false
theorem bb {w w1 w2 : World} (h1 : Below w.heap.size w w1) (h2 : Below w1.heap.size w1 w2) : Below w.heap.size w w2 := h1.trans (h2.mono h1.size)
theorem kempty (k : ByteArray) : k.toList.isEmpty = decide (k = ⟨#[]⟩) := by
  by_cases h : k = ⟨#[]⟩
  · subst h; simp
  · rw [decide_eq_false h, List.isEmpty_eq_false_iff]; exact fun e => h (DuB.toL_inj (e.trans (by simp)))
theorem tick_iff (d : Int) : tickB d = true ↔ 0 ≤ d ∧ d ≤ 9007199254740992 := by unfold tickB; simp
theorem rdv0 (w : World) : RdV w vv0 := (vok0 w (fun _ => False)).rd
set_option maxHeartbeats 4000000 in
theorem may_calls (e : EV) (w : World) (hr : RdV w e.x) (hs : Sm e.x) :
    Calls Tryz.prog 28 #[evV e] w fun r w' => r = .returned (.bool (mayP (peOf e))) ∧ Below w.heap.size w w' := by
  obtain ⟨W1, hW1⟩ : ∃ W1, w.alloc (.cells e.cells.toArray 44) = W1 := ⟨_, rfl⟩
  have b1 : Below w.heap.size w W1 := by rw [← hW1]; exact (Below.refl _ _).alloc (Nat.le_refl _) _
  have hbx : W1.heap[w.heap.size]? = some (.cells e.cells.toArray 44 (0, 0)) := by rw [← hW1]; exact heap_alloc_new w _
  obtain ⟨kind, key, x, due⟩ := e
  have z0 : W1.cell? ⟨w.heap.size, 0, none⟩ = some (.int .i64 kind) := by simp [World.cell?, hbx, EV.cells]
  have z1 : W1.cell? ⟨w.heap.size, 1, none⟩ = some (.string key) := by simp [World.cell?, hbx, EV.cells]
  have z2 : W1.cell? ⟨w.heap.size, 2, none⟩ = some (.int .i64 x.kind) := by simp [World.cell?, hbx, EV.cells]
  have z3 : W1.cell? ⟨w.heap.size, 3, none⟩ = some (.string x.text) := by simp [World.cell?, hbx, EV.cells]
  have z4 : W1.cell? ⟨w.heap.size, 4, none⟩ = some (.slice x.LA x.ln x.lc) := by simp [World.cell?, hbx, EV.cells]
  have z5 : W1.cell? ⟨w.heap.size, 5, none⟩ = some (.slice x.FA x.fn x.fc) := by simp [World.cell?, hbx, EV.cells]
  have z6 : W1.cell? ⟨w.heap.size, 6, none⟩ = some (.slice x.KA x.kn x.kc) := by simp [World.cell?, hbx, EV.cells]
  have z7 : W1.cell? ⟨w.heap.size, 7, none⟩ = some (.int .i64 due) := by simp [World.cell?, hbx, EV.cells]
  dsimp only at hr hs
  have hr1 := hr.below b1
  have hcp := chk_pv hr
  have hz : sameV x vv0 = decide (pvOf x = pv0) := by rw [pv_same]; rfl
  have hsm := fun (wz : World) (hb : Below W1.heap.size W1 wz) => sameP_calls x vv0 wz (hr1.below hb) (rdv0 wz)
  have hck := fun (wz : World) (hb : Below W1.heap.size W1 wz) => check_calls x wz (hr1.below hb) hs.kn hs.z
  rw [hz] at hsm
  obtain ⟨ck, hck2⟩ : ∃ ck, chk x = ck := ⟨_, rfl⟩
  rw [hck2] at hck hcp
  obtain ⟨zb, hzb⟩ : ∃ zb, decide (pvOf x = pv0) = zb := ⟨_, rfl⟩
  obtain ⟨tb, htb⟩ : ∃ tb, tickB due = tb := ⟨_, rfl⟩
  rw [hzb] at hsm
  unfold VV.val at hsm hck
  try unfold vv0 at hsm
  dsimp only at hsm
  unfold EV.cells at hW1
  unfold evV
  have HW := Lib.hid hW1
  have HS := Lib.hid (And.intro hsm (And.intro hck b1))
  have HM := Lib.hid (And.intro hcp hzb)
  clear hr hr1 hs hbx b1 hW1 hsm hck hcp hz hzb
  have he : mayP (peOf ⟨kind, key, x, due⟩) = (if kind = 1 then decide (ck = 0) && tb else if kind = 2 then zb && decide (due = 0) else if kind = 3 then zb && tb else if kind = 4 then zb && decide (due = 0) && decide (key = ⟨#[]⟩) else false) := by
    obtain ⟨hcp, hzb⟩ := HM.out
    rw [← hzb, hcp, ← htb]; rfl
  rw [he]
  have hti := tick_iff due
  rw [htb] at hti
  clear he htb
  by_cases k1 : kind = 1
  · subst k1
    rw [if_pos rfl]
    go_enter Tryz.func28, Tryz.ntmps28
    go_upto_region 1 with fail
    rw [HW.out]
    go_wp2_with fail
    obtain ⟨hsm, hck, b1⟩ := HS.out
    refine (hsm _ (Below.refl _ _)).mono ?_
    clear hsm hck
    rintro e w2 ⟨rfl, b2⟩
    have y0 := below_c z0 b2
    have y1 := below_c z1 b2
    have y2 := below_c z2 b2
    have y3 := below_c z3 b2
    have y4 := below_c z4 b2
    have y5 := below_c z5 b2
    have y6 := below_c z6 b2
    have y7 := below_c z7 b2
    obtain ⟨-, hck, -⟩ := HS.out
    have b12 := bb b1 b2
    have hc2 := hck _ b2
    clear hck z0 z1 z2 z3 z4 z5 z6 z7
    by_cases hc : ck = 0
    · subst hc
      by_cases hd : 0 ≤ due
      · have hd' : decide (due ≥ 0) = true := decide_eq_true hd
        go_wp2_with fail
        refine hc2.mono ?_
        rintro e w3 ⟨rfl, b3⟩
        have x0 := below_c y0 b3
        have x1 := below_c y1 b3
        have x2 := below_c y2 b3
        have x3 := below_c y3 b3
        have x4 := below_c y4 b3
        have x5 := below_c y5 b3
        have x6 := below_c y6 b3
        have x7 := below_c y7 b3
        go_wp2_with fail
        all_goals (go_ret; refine ⟨?_, bb b12 b3⟩; cases tb <;> simp at hti <;> (first | rfl | (simp [kempty, *]; done) | (exfalso; omega) | (simp [kempty, *]; omega)))
      · have hd' : decide (due ≥ 0) = false := decide_eq_false hd
        go_wp2_with fail
        refine hc2.mono ?_
        rintro e w3 ⟨rfl, b3⟩
        have x0 := below_c y0 b3
        have x1 := below_c y1 b3
        have x2 := below_c y2 b3
        have x3 := below_c y3 b3
        have x4 := below_c y4 b3
        have x5 := below_c y5 b3
        have x6 := below_c y6 b3
        have x7 := below_c y7 b3
        go_wp2_with fail
        all_goals (go_ret; refine ⟨?_, bb b12 b3⟩; cases tb <;> simp at hti <;> (first | rfl | (simp [kempty, *]; done) | (exfalso; omega) | (simp [kempty, *]; omega)))
    · have hc' : (ck == 0) = false := by simpa using hc
      go_wp2_with fail
      refine hc2.mono ?_
      rintro e w3 ⟨rfl, b3⟩
      have x0 := below_c y0 b3
      have x1 := below_c y1 b3
      have x2 := below_c y2 b3
      have x3 := below_c y3 b3
      have x4 := below_c y4 b3
      have x5 := below_c y5 b3
      have x6 := below_c y6 b3
      have x7 := below_c y7 b3
      go_wp2_with fail
      all_goals (go_ret; refine ⟨?_, bb b12 b3⟩; simp [hc])
  by_cases k2 : kind = 2
  · subst k2
    rw [if_neg k1, if_pos rfl]
    clear k1
    cases zb with
    | false =>
      go_enter Tryz.func28, Tryz.ntmps28
      go_upto_region 1 with fail
      rw [HW.out]
      go_wp2_with fail
      obtain ⟨hsm, hck, b1⟩ := HS.out
      refine (hsm _ (Below.refl _ _)).mono ?_
      clear hsm hck
      rintro e w2 ⟨rfl, b2⟩
      have y0 := below_c z0 b2
      have y1 := below_c z1 b2
      have y2 := below_c z2 b2
      have y3 := below_c z3 b2
      have y4 := below_c z4 b2
      have y5 := below_c z5 b2
      have y6 := below_c z6 b2
      have y7 := below_c z7 b2
      have b12 := bb b1 b2
      clear z0 z1 z2 z3 z4 z5 z6 z7
      go_wp2_with fail
      all_goals (go_ret; refine ⟨?_, b12⟩; cases tb <;> simp at hti <;> (first | rfl | (simp [kempty, *]; done) | (exfalso; omega) | (simp [kempty, *]; omega)))
    | true =>
      go_enter Tryz.func28, Tryz.ntmps28
      go_upto_region 1 with fail
      rw [HW.out]
      go_wp2_with fail
      obtain ⟨hsm, hck, b1⟩ := HS.out
      refine (hsm _ (Below.refl _ _)).mono ?_
      clear hsm hck
      rintro e w2 ⟨rfl, b2⟩
      have y0 := below_c z0 b2
      have y1 := below_c z1 b2
      have y2 := below_c z2 b2
      have y3 := below_c z3 b2
      have y4 := below_c z4 b2
      have y5 := below_c z5 b2
      have y6 := below_c z6 b2
      have y7 := below_c z7 b2
      have b12 := bb b1 b2
      clear z0 z1 z2 z3 z4 z5 z6 z7
      go_wp2_with fail
      all_goals (go_ret; refine ⟨?_, b12⟩; cases tb <;> simp at hti <;> (first | rfl | (simp [kempty, *]; done) | (exfalso; omega) | (simp [kempty, *]; omega)))
  by_cases k3 : kind = 3
  · subst k3
    rw [if_neg k1, if_neg k2, if_pos rfl]
    clear k1
    clear k2
    cases zb with
    | false =>
      go_enter Tryz.func28, Tryz.ntmps28
      go_upto_region 1 with fail
      rw [HW.out]
      go_wp2_with fail
      obtain ⟨hsm, hck, b1⟩ := HS.out
      refine (hsm _ (Below.refl _ _)).mono ?_
      clear hsm hck
      rintro e w2 ⟨rfl, b2⟩
      have y0 := below_c z0 b2
      have y1 := below_c z1 b2
      have y2 := below_c z2 b2
      have y3 := below_c z3 b2
      have y4 := below_c z4 b2
      have y5 := below_c z5 b2
      have y6 := below_c z6 b2
      have y7 := below_c z7 b2
      have b12 := bb b1 b2
      clear z0 z1 z2 z3 z4 z5 z6 z7
      go_wp2_with fail
      all_goals (go_ret; refine ⟨?_, b12⟩; cases tb <;> simp at hti <;> (first | rfl | (simp [kempty, *]; done) | (exfalso; omega) | (simp [kempty, *]; omega)))
    | true =>
      go_enter Tryz.func28, Tryz.ntmps28
      go_upto_region 1 with fail
      rw [HW.out]
      go_wp2_with fail
      obtain ⟨hsm, hck, b1⟩ := HS.out
      refine (hsm _ (Below.refl _ _)).mono ?_
      clear hsm hck
      rintro e w2 ⟨rfl, b2⟩
      have y0 := below_c z0 b2
      have y1 := below_c z1 b2
      have y2 := below_c z2 b2
      have y3 := below_c z3 b2
      have y4 := below_c z4 b2
      have y5 := below_c z5 b2
      have y6 := below_c z6 b2
      have y7 := below_c z7 b2
      have b12 := bb b1 b2
      clear z0 z1 z2 z3 z4 z5 z6 z7
      go_wp2_with fail
      all_goals (go_ret; refine ⟨?_, b12⟩; cases tb <;> simp at hti <;> (first | rfl | (simp [kempty, *]; done) | (exfalso; omega) | (simp [kempty, *]; omega)))
  by_cases k4 : kind = 4
  · subst k4
    rw [if_neg k1, if_neg k2, if_neg k3, if_pos rfl]
    clear k1
    clear k2
    clear k3
    cases zb with
    | false =>
      go_enter Tryz.func28, Tryz.ntmps28
      go_upto_region 1 with fail
      rw [HW.out]
      go_wp2_with fail
      obtain ⟨hsm, hck, b1⟩ := HS.out
      refine (hsm _ (Below.refl _ _)).mono ?_
      clear hsm hck
      rintro e w2 ⟨rfl, b2⟩
      have y0 := below_c z0 b2
      have y1 := below_c z1 b2
      have y2 := below_c z2 b2
      have y3 := below_c z3 b2
      have y4 := below_c z4 b2
      have y5 := below_c z5 b2
      have y6 := below_c z6 b2
      have y7 := below_c z7 b2
      have b12 := bb b1 b2
      clear z0 z1 z2 z3 z4 z5 z6 z7
      go_wp2_with fail
      all_goals (go_ret; refine ⟨?_, b12⟩; cases tb <;> simp at hti <;> (first | rfl | (simp [kempty, *]; done) | (exfalso; omega) | (simp [kempty, *]; omega)))
    | true =>
      go_enter Tryz.func28, Tryz.ntmps28
      go_upto_region 1 with fail
      rw [HW.out]
      go_wp2_with fail
      obtain ⟨hsm, hck, b1⟩ := HS.out
      refine (hsm _ (Below.refl _ _)).mono ?_
      clear hsm hck
      rintro e w2 ⟨rfl, b2⟩
      have y0 := below_c z0 b2
      have y1 := below_c z1 b2
      have y2 := below_c z2 b2
      have y3 := below_c z3 b2
      have y4 := below_c z4 b2
      have y5 := below_c z5 b2
      have y6 := below_c z6 b2
      have y7 := below_c z7 b2
      have b12 := bb b1 b2
      clear z0 z1 z2 z3 z4 z5 z6 z7
      go_wp2_with fail
      all_goals (go_ret; refine ⟨?_, b12⟩; cases tb <;> simp at hti <;> (first | rfl | (simp [kempty, *]; done) | (exfalso; omega) | (simp [kempty, *]; omega)))
  · have q1 : (kind == 1) = false := by simpa using k1
    have q2 : (kind == 2) = false := by simpa using k2
    have q3 : (kind == 3) = false := by simpa using k3
    have q4 : (kind == 4) = false := by simpa using k4
    rw [if_neg k1, if_neg k2, if_neg k3, if_neg k4]
    go_enter Tryz.func28, Tryz.ntmps28
    go_upto_region 1 with fail
    rw [HW.out]
    go_wp2_with fail
    obtain ⟨hsm, hck, b1⟩ := HS.out
    refine (hsm _ (Below.refl _ _)).mono ?_
    clear hsm hck
    rintro e w2 ⟨rfl, b2⟩
    have y0 := below_c z0 b2
    have y1 := below_c z1 b2
    have y2 := below_c z2 b2
    have y3 := below_c z3 b2
    have y4 := below_c z4 b2
    have y5 := below_c z5 b2
    have y6 := below_c z6 b2
    have y7 := below_c z7 b2
    have b12 := bb b1 b2
    clear z0 z1 z2 z3 z4 z5 z6 z7
    go_wp2_with fail
    all_goals (go_ret; exact ⟨rfl, b12⟩)
theorem fit_calls (x : VV) (due : Int) (w : World) (hr : RdV w x) (hkn : x.kn ≤ 100000000) :
    Calls Tryz.prog 40 #[x.val, .int .i64 due] w fun r w' => r = .returned (.int .i64 (putE (pvOf x) due)) ∧ Below w.heap.size w w' := by
  obtain ⟨W1, hW1⟩ : ∃ W1, w.alloc (.cells x.cells 42) = W1 := ⟨_, rfl⟩
  have b1 : Below w.heap.size w W1 := by rw [← hW1]; exact (Below.refl _ _).alloc (Nat.le_refl _) _
  have hbx : W1.heap[w.heap.size]? = some (.cells x.cells 42 (0, 0)) := by rw [← hW1]; exact heap_alloc_new w _
  unfold VV.cells at hW1
  have z0 : W1.cell? ⟨w.heap.size, 0, none⟩ = some (.int .i64 x.kind) := by simp [World.cell?, hbx, VV.cells]
  have z1 : W1.cell? ⟨w.heap.size, 1, none⟩ = some (.string x.text) := by simp [World.cell?, hbx, VV.cells]
  have z2 : W1.cell? ⟨w.heap.size, 2, none⟩ = some (.slice x.LA x.ln x.lc) := by simp [World.cell?, hbx, VV.cells]
  have z3 : W1.cell? ⟨w.heap.size, 3, none⟩ = some (.slice x.FA x.fn x.fc) := by simp [World.cell?, hbx, VV.cells]
  have z4 : W1.cell? ⟨w.heap.size, 4, none⟩ = some (.slice x.KA x.kn x.kc) := by simp [World.cell?, hbx, VV.cells]
  have hck := checkR_calls x W1 (hr.below b1) hkn
  rw [chk_pv hr] at hck
  obtain ⟨ck, hck2⟩ : ∃ ck, chkP (pvOf x) = ck := ⟨_, rfl⟩
  rw [hck2] at hck
  unfold putE
  rw [hck2]
  obtain ⟨tb, htb⟩ : ∃ tb, tickB due = tb := ⟨_, rfl⟩
  have hti := tick_iff due
  rw [htb] at hti ⊢
  unfold VV.val at hck ⊢
  clear htb
  have HW := Lib.hid hW1
  clear hbx hW1 hr hkn hck2
  by_cases hc : ck = 0
  · subst hc
    go_enter Tryz.func40, Tryz.ntmps40
    go_upto_region 1 with fail
    rw [HW.out]
    go_wp2_with fail
    refine hck.mono ?_
    rintro e w2 ⟨rfl, b2⟩
    have b12 := bb b1 b2
    clear z0 z1 z2 z3 z4 hck
    go_wp2_with fail
    all_goals (go_ret; refine ⟨?_, b12⟩; cases tb <;> simp at hti <;> (first | rfl | (simp [kempty, *]; done) | (exfalso; omega) | (simp [kempty, *]; omega)))
  · have hc' : (ck != 0) = true := by simpa using hc
    go_enter Tryz.func40, Tryz.ntmps40
    go_upto_region 1 with fail
    rw [HW.out]
    go_wp2_with fail
    refine hck.mono ?_
    rintro e w2 ⟨rfl, b2⟩
    have b12 := bb b1 b2
    clear z0 z1 z2 z3 z4 hck
    go_wp2_with fail
    all_goals (go_ret; refine ⟨?_, b12⟩; simp [hc])
theorem zero_calls (x : VV) (w : World) (hr : RdV w x) :
    Calls Tryz.prog 41 #[x.val] w fun r w' => r = .returned (.bool (decide (pvOf x = pv0))) ∧ Below w.heap.size w w' := by
  obtain ⟨W1, hW1⟩ : ∃ W1, w.alloc (.cells x.cells 42) = W1 := ⟨_, rfl⟩
  have b1 : Below w.heap.size w W1 := by rw [← hW1]; exact (Below.refl _ _).alloc (Nat.le_refl _) _
  have hbx : W1.heap[w.heap.size]? = some (.cells x.cells 42 (0, 0)) := by rw [← hW1]; exact heap_alloc_new w _
  unfold VV.cells at hW1
  have z0 : W1.cell? ⟨w.heap.size, 0, none⟩ = some (.int .i64 x.kind) := by simp [World.cell?, hbx, VV.cells]
  have z1 : W1.cell? ⟨w.heap.size, 1, none⟩ = some (.string x.text) := by simp [World.cell?, hbx, VV.cells]
  have z2 : W1.cell? ⟨w.heap.size, 2, none⟩ = some (.slice x.LA x.ln x.lc) := by simp [World.cell?, hbx, VV.cells]
  have z3 : W1.cell? ⟨w.heap.size, 3, none⟩ = some (.slice x.FA x.fn x.fc) := by simp [World.cell?, hbx, VV.cells]
  have z4 : W1.cell? ⟨w.heap.size, 4, none⟩ = some (.slice x.KA x.kn x.kc) := by simp [World.cell?, hbx, VV.cells]
  have hsm := sameR_calls x vv0 W1 (hr.below b1) (rdv0 W1)
  have hz : sameV x vv0 = decide (pvOf x = pv0) := by rw [pv_same]; rfl
  rw [hz] at hsm
  unfold VV.val at hsm ⊢
  unfold vv0 at hsm
  dsimp only at hsm
  have HW := Lib.hid hW1
  clear hbx hW1 hr hz
  go_enter Tryz.func41, Tryz.ntmps41
  go_upto_region 1 with fail
  rw [HW.out]
  go_wp2_with fail
  refine hsm.mono ?_
  rintro e w2 ⟨rfl, b2⟩
  clear hsm
  go_wp2_with fail
  go_ret
  exact ⟨rfl, bb b1 b2⟩
set_option maxHeartbeats 4000000 in
theorem mayR_calls (e : EV) (w : World) (hr : RdV w e.x) (hs : Sm e.x) :
    Calls Tryz.prog 15 #[evV e] w fun r w' => r = .returned (.bool (mayP (peOf e))) ∧ Below w.heap.size w w' := by
  obtain ⟨W1, hW1⟩ : ∃ W1, w.alloc (.cells e.cells.toArray 44) = W1 := ⟨_, rfl⟩
  have b1 : Below w.heap.size w W1 := by rw [← hW1]; exact (Below.refl _ _).alloc (Nat.le_refl _) _
  have hbx : W1.heap[w.heap.size]? = some (.cells e.cells.toArray 44 (0, 0)) := by rw [← hW1]; exact heap_alloc_new w _
  obtain ⟨kind, key, x, due⟩ := e
  have z0 : W1.cell? ⟨w.heap.size, 0, none⟩ = some (.int .i64 kind) := by simp [World.cell?, hbx, EV.cells]
  have z1 : W1.cell? ⟨w.heap.size, 1, none⟩ = some (.string key) := by simp [World.cell?, hbx, EV.cells]
  have z2 : W1.cell? ⟨w.heap.size, 2, none⟩ = some (.int .i64 x.kind) := by simp [World.cell?, hbx, EV.cells]
  have z3 : W1.cell? ⟨w.heap.size, 3, none⟩ = some (.string x.text) := by simp [World.cell?, hbx, EV.cells]
  have z4 : W1.cell? ⟨w.heap.size, 4, none⟩ = some (.slice x.LA x.ln x.lc) := by simp [World.cell?, hbx, EV.cells]
  have z5 : W1.cell? ⟨w.heap.size, 5, none⟩ = some (.slice x.FA x.fn x.fc) := by simp [World.cell?, hbx, EV.cells]
  have z6 : W1.cell? ⟨w.heap.size, 6, none⟩ = some (.slice x.KA x.kn x.kc) := by simp [World.cell?, hbx, EV.cells]
  have z7 : W1.cell? ⟨w.heap.size, 7, none⟩ = some (.int .i64 due) := by simp [World.cell?, hbx, EV.cells]
  dsimp only at hr hs
  have hr1 := hr.below b1
  have hsm := zero_calls x W1 hr1
  have hft := fit_calls x due W1 hr1 hs.kn
  obtain ⟨zb, hzb⟩ : ∃ zb, decide (pvOf x = pv0) = zb := ⟨_, rfl⟩
  obtain ⟨ft, hft2⟩ : ∃ ft, putE (pvOf x) due = ft := ⟨_, rfl⟩
  rw [hzb] at hsm
  rw [hft2] at hft
  obtain ⟨tb, htb⟩ : ∃ tb, tickB due = tb := ⟨_, rfl⟩
  unfold VV.val at hsm hft
  have he : mayP (peOf ⟨kind, key, x, due⟩) = (if kind = 1 then decide (ft = 0) else if kind = 2 then zb && decide (due = 0) else if kind = 3 then zb && tb else if kind = 4 then zb && decide (due = 0) && decide (key = ⟨#[]⟩) else false) := by
    rw [← hzb, ← hft2, ← htb]
    unfold mayP peOf putE
    dsimp only
    by_cases hk : kind = 1
    · rw [if_pos hk, if_pos hk]
      by_cases hc : chkP (pvOf x) = 0
      · cases ht : tickB due <;> simp [hc]
      · simp [hc]
    · rw [if_neg hk, if_neg hk]
  rw [he]
  have hti := tick_iff due
  rw [htb] at hti
  unfold EV.cells at hW1
  unfold evV
  have HW := Lib.hid hW1
  have HS := Lib.hid (And.intro hsm (And.intro hft b1))
  clear htb
  clear hr hr1 hs hbx b1 hW1 hsm hft hzb hft2 he
  by_cases k1 : kind = 1
  · subst k1
    rw [if_pos rfl]
    rcases (show due < 0 ∨ (0 ≤ due ∧ due ≤ 9007199254740992) ∨ (0 ≤ due ∧ 9007199254740992 < due) by omega) with hd | ⟨hd, hd2⟩ | ⟨hd, hd2⟩
    · have d1 : decide (due ≥ 0) = false := decide_eq_false (by omega)
      by_cases hf0 : ft = 0
      · subst hf0
        go_enter Tryz.func15, Tryz.ntmps15
        go_upto_region 1 with fail
        rw [HW.out]
        go_wp2_with fail
        obtain ⟨hsm, hft, b1⟩ := HS.out
        refine (hft).mono ?_
        clear hsm hft
        rintro e w2 ⟨rfl, b2⟩
        have y0 := below_c z0 b2
        have y1 := below_c z1 b2
        have y2 := below_c z2 b2
        have y3 := below_c z3 b2
        have y4 := below_c z4 b2
        have y5 := below_c z5 b2
        have y6 := below_c z6 b2
        have y7 := below_c z7 b2
        have b12 := bb b1 b2
        clear z0 z1 z2 z3 z4 z5 z6 z7
        go_wp2_with fail
        all_goals (go_ret; refine ⟨?_, b12⟩; cases tb <;> simp at hti <;> (first | rfl | (simp [kempty, *]; done) | (exfalso; omega) | (simp [kempty, *]; omega)))
      · have hf1 : (ft == 0) = false := by simpa using hf0
        go_enter Tryz.func15, Tryz.ntmps15
        go_upto_region 1 with fail
        rw [HW.out]
        go_wp2_with fail
        obtain ⟨hsm, hft, b1⟩ := HS.out
        refine (hft).mono ?_
        clear hsm hft
        rintro e w2 ⟨rfl, b2⟩
        have y0 := below_c z0 b2
        have y1 := below_c z1 b2
        have y2 := below_c z2 b2
        have y3 := below_c z3 b2
        have y4 := below_c z4 b2
        have y5 := below_c z5 b2
        have y6 := below_c z6 b2
        have y7 := below_c z7 b2
        have b12 := bb b1 b2
        clear z0 z1 z2 z3 z4 z5 z6 z7
        go_wp2_with fail
        all_goals (go_ret; refine ⟨?_, b12⟩; cases tb <;> simp at hti <;> (first | rfl | (simp [kempty, *]; done) | (exfalso; omega) | (simp [kempty, *]; omega)))
    · have d1 : decide (due ≥ 0) = true := decide_eq_true (by omega)
      have d2 : decide (due ≤ 9007199254740992) = true := decide_eq_true (by omega)
      by_cases hf0 : ft = 0
      · subst hf0
        go_enter Tryz.func15, Tryz.ntmps15
        go_upto_region 1 with fail
        rw [HW.out]
        go_wp2_with fail
        obtain ⟨hsm, hft, b1⟩ := HS.out
        refine (hft).mono ?_
        clear hsm hft
        rintro e w2 ⟨rfl, b2⟩
        have y0 := below_c z0 b2
        have y1 := below_c z1 b2
        have y2 := below_c z2 b2
        have y3 := below_c z3 b2
        have y4 := below_c z4 b2
        have y5 := below_c z5 b2
        have y6 := below_c z6 b2
        have y7 := below_c z7 b2
        have b12 := bb b1 b2
        clear z0 z1 z2 z3 z4 z5 z6 z7
        go_wp2_with fail
        all_goals (go_ret; refine ⟨?_, b12⟩; cases tb <;> simp at hti <;> (first | rfl | (simp [kempty, *]; done) | (exfalso; omega) | (simp [kempty, *]; omega)))
      · have hf1 : (ft == 0) = false := by simpa using hf0
        go_enter Tryz.func15, Tryz.ntmps15
        go_upto_region 1 with fail
        rw [HW.out]
        go_wp2_with fail
        obtain ⟨hsm, hft, b1⟩ := HS.out
        refine (hft).mono ?_
        clear hsm hft
        rintro e w2 ⟨rfl, b2⟩
        have y0 := below_c z0 b2
        have y1 := below_c z1 b2
        have y2 := below_c z2 b2
        have y3 := below_c z3 b2
        have y4 := below_c z4 b2
        have y5 := below_c z5 b2
        have y6 := below_c z6 b2
        have y7 := below_c z7 b2
        have b12 := bb b1 b2
        clear z0 z1 z2 z3 z4 z5 z6 z7
        go_wp2_with fail
        all_goals (go_ret; refine ⟨?_, b12⟩; cases tb <;> simp at hti <;> (first | rfl | (simp [kempty, *]; done) | (exfalso; omega) | (simp [kempty, *]; omega)))
    · have d1 : decide (due ≥ 0) = true := decide_eq_true (by omega)
      have d2 : decide (due ≤ 9007199254740992) = false := decide_eq_false (by omega)
      by_cases hf0 : ft = 0
      · subst hf0
        go_enter Tryz.func15, Tryz.ntmps15
        go_upto_region 1 with fail
        rw [HW.out]
        go_wp2_with fail
        obtain ⟨hsm, hft, b1⟩ := HS.out
        refine (hft).mono ?_
        clear hsm hft
        rintro e w2 ⟨rfl, b2⟩
        have y0 := below_c z0 b2
        have y1 := below_c z1 b2
        have y2 := below_c z2 b2
        have y3 := below_c z3 b2
        have y4 := below_c z4 b2
        have y5 := below_c z5 b2
        have y6 := below_c z6 b2
        have y7 := below_c z7 b2
        have b12 := bb b1 b2
        clear z0 z1 z2 z3 z4 z5 z6 z7
        go_wp2_with fail
        all_goals (go_ret; refine ⟨?_, b12⟩; cases tb <;> simp at hti <;> (first | rfl | (simp [kempty, *]; done) | (exfalso; omega) | (simp [kempty, *]; omega)))
      · have hf1 : (ft == 0) = false := by simpa using hf0
        go_enter Tryz.func15, Tryz.ntmps15
        go_upto_region 1 with fail
        rw [HW.out]
        go_wp2_with fail
        obtain ⟨hsm, hft, b1⟩ := HS.out
        refine (hft).mono ?_
        clear hsm hft
        rintro e w2 ⟨rfl, b2⟩
        have y0 := below_c z0 b2
        have y1 := below_c z1 b2
        have y2 := below_c z2 b2
        have y3 := below_c z3 b2
        have y4 := below_c z4 b2
        have y5 := below_c z5 b2
        have y6 := below_c z6 b2
        have y7 := below_c z7 b2
        have b12 := bb b1 b2
        clear z0 z1 z2 z3 z4 z5 z6 z7
        go_wp2_with fail
        all_goals (go_ret; refine ⟨?_, b12⟩; cases tb <;> simp at hti <;> (first | rfl | (simp [kempty, *]; done) | (exfalso; omega) | (simp [kempty, *]; omega)))
  by_cases k2 : kind = 2
  · subst k2
    rw [if_neg k1, if_pos rfl]
    clear k1
    rcases (show due < 0 ∨ (0 ≤ due ∧ due ≤ 9007199254740992) ∨ (0 ≤ due ∧ 9007199254740992 < due) by omega) with hd | ⟨hd, hd2⟩ | ⟨hd, hd2⟩
    · have d1 : decide (due ≥ 0) = false := decide_eq_false (by omega)
      cases zb with
      | false =>
        go_enter Tryz.func15, Tryz.ntmps15
        go_upto_region 1 with fail
        rw [HW.out]
        go_wp2_with fail
        obtain ⟨hsm, hft, b1⟩ := HS.out
        refine (hsm).mono ?_
        clear hsm hft
        rintro e w2 ⟨rfl, b2⟩
        have y0 := below_c z0 b2
        have y1 := below_c z1 b2
        have y2 := below_c z2 b2
        have y3 := below_c z3 b2
        have y4 := below_c z4 b2
        have y5 := below_c z5 b2
        have y6 := below_c z6 b2
        have y7 := below_c z7 b2
        have b12 := bb b1 b2
        clear z0 z1 z2 z3 z4 z5 z6 z7
        go_wp2_with fail
        all_goals (go_ret; refine ⟨?_, b12⟩; cases tb <;> simp at hti <;> (first | rfl | (simp [kempty, *]; done) | (exfalso; omega) | (simp [kempty, *]; omega)))
      | true =>
        go_enter Tryz.func15, Tryz.ntmps15
        go_upto_region 1 with fail
        rw [HW.out]
        go_wp2_with fail
        obtain ⟨hsm, hft, b1⟩ := HS.out
        refine (hsm).mono ?_
        clear hsm hft
        rintro e w2 ⟨rfl, b2⟩
        have y0 := below_c z0 b2
        have y1 := below_c z1 b2
        have y2 := below_c z2 b2
        have y3 := below_c z3 b2
        have y4 := below_c z4 b2
        have y5 := below_c z5 b2
        have y6 := below_c z6 b2
        have y7 := below_c z7 b2
        have b12 := bb b1 b2
        clear z0 z1 z2 z3 z4 z5 z6 z7
        go_wp2_with fail
        all_goals (go_ret; refine ⟨?_, b12⟩; cases tb <;> simp at hti <;> (first | rfl | (simp [kempty, *]; done) | (exfalso; omega) | (simp [kempty, *]; omega)))
    · have d1 : decide (due ≥ 0) = true := decide_eq_true (by omega)
      have d2 : decide (due ≤ 9007199254740992) = true := decide_eq_true (by omega)
      cases zb with
      | false =>
        go_enter Tryz.func15, Tryz.ntmps15
        go_upto_region 1 with fail
        rw [HW.out]
        go_wp2_with fail
        obtain ⟨hsm, hft, b1⟩ := HS.out
        refine (hsm).mono ?_
        clear hsm hft
        rintro e w2 ⟨rfl, b2⟩
        have y0 := below_c z0 b2
        have y1 := below_c z1 b2
        have y2 := below_c z2 b2
        have y3 := below_c z3 b2
        have y4 := below_c z4 b2
        have y5 := below_c z5 b2
        have y6 := below_c z6 b2
        have y7 := below_c z7 b2
        have b12 := bb b1 b2
        clear z0 z1 z2 z3 z4 z5 z6 z7
        go_wp2_with fail
        all_goals (go_ret; refine ⟨?_, b12⟩; cases tb <;> simp at hti <;> (first | rfl | (simp [kempty, *]; done) | (exfalso; omega) | (simp [kempty, *]; omega)))
      | true =>
        go_enter Tryz.func15, Tryz.ntmps15
        go_upto_region 1 with fail
        rw [HW.out]
        go_wp2_with fail
        obtain ⟨hsm, hft, b1⟩ := HS.out
        refine (hsm).mono ?_
        clear hsm hft
        rintro e w2 ⟨rfl, b2⟩
        have y0 := below_c z0 b2
        have y1 := below_c z1 b2
        have y2 := below_c z2 b2
        have y3 := below_c z3 b2
        have y4 := below_c z4 b2
        have y5 := below_c z5 b2
        have y6 := below_c z6 b2
        have y7 := below_c z7 b2
        have b12 := bb b1 b2
        clear z0 z1 z2 z3 z4 z5 z6 z7
        go_wp2_with fail
        all_goals (go_ret; refine ⟨?_, b12⟩; cases tb <;> simp at hti <;> (first | rfl | (simp [kempty, *]; done) | (exfalso; omega) | (simp [kempty, *]; omega)))
    · have d1 : decide (due ≥ 0) = true := decide_eq_true (by omega)
      have d2 : decide (due ≤ 9007199254740992) = false := decide_eq_false (by omega)
      cases zb with
      | false =>
        go_enter Tryz.func15, Tryz.ntmps15
        go_upto_region 1 with fail
        rw [HW.out]
        go_wp2_with fail
        obtain ⟨hsm, hft, b1⟩ := HS.out
        refine (hsm).mono ?_
        clear hsm hft
        rintro e w2 ⟨rfl, b2⟩
        have y0 := below_c z0 b2
        have y1 := below_c z1 b2
        have y2 := below_c z2 b2
        have y3 := below_c z3 b2
        have y4 := below_c z4 b2
        have y5 := below_c z5 b2
        have y6 := below_c z6 b2
        have y7 := below_c z7 b2
        have b12 := bb b1 b2
        clear z0 z1 z2 z3 z4 z5 z6 z7
        go_wp2_with fail
        all_goals (go_ret; refine ⟨?_, b12⟩; cases tb <;> simp at hti <;> (first | rfl | (simp [kempty, *]; done) | (exfalso; omega) | (simp [kempty, *]; omega)))
      | true =>
        go_enter Tryz.func15, Tryz.ntmps15
        go_upto_region 1 with fail
        rw [HW.out]
        go_wp2_with fail
        obtain ⟨hsm, hft, b1⟩ := HS.out
        refine (hsm).mono ?_
        clear hsm hft
        rintro e w2 ⟨rfl, b2⟩
        have y0 := below_c z0 b2
        have y1 := below_c z1 b2
        have y2 := below_c z2 b2
        have y3 := below_c z3 b2
        have y4 := below_c z4 b2
        have y5 := below_c z5 b2
        have y6 := below_c z6 b2
        have y7 := below_c z7 b2
        have b12 := bb b1 b2
        clear z0 z1 z2 z3 z4 z5 z6 z7
        go_wp2_with fail
        all_goals (go_ret; refine ⟨?_, b12⟩; cases tb <;> simp at hti <;> (first | rfl | (simp [kempty, *]; done) | (exfalso; omega) | (simp [kempty, *]; omega)))
  by_cases k3 : kind = 3
  · subst k3
    rw [if_neg k1, if_neg k2, if_pos rfl]
    clear k1
    clear k2
    rcases (show due < 0 ∨ (0 ≤ due ∧ due ≤ 9007199254740992) ∨ (0 ≤ due ∧ 9007199254740992 < due) by omega) with hd | ⟨hd, hd2⟩ | ⟨hd, hd2⟩
    · have d1 : decide (due ≥ 0) = false := decide_eq_false (by omega)
      cases zb with
      | false =>
        go_enter Tryz.func15, Tryz.ntmps15
        go_upto_region 1 with fail
        rw [HW.out]
        go_wp2_with fail
        obtain ⟨hsm, hft, b1⟩ := HS.out
        refine (hsm).mono ?_
        clear hsm hft
        rintro e w2 ⟨rfl, b2⟩
        have y0 := below_c z0 b2
        have y1 := below_c z1 b2
        have y2 := below_c z2 b2
        have y3 := below_c z3 b2
        have y4 := below_c z4 b2
        have y5 := below_c z5 b2
        have y6 := below_c z6 b2
        have y7 := below_c z7 b2
        have b12 := bb b1 b2
        clear z0 z1 z2 z3 z4 z5 z6 z7
        go_wp2_with fail
        all_goals (go_ret; refine ⟨?_, b12⟩; cases tb <;> simp at hti <;> (first | rfl | (simp [kempty, *]; done) | (exfalso; omega) | (simp [kempty, *]; omega)))
      | true =>
        go_enter Tryz.func15, Tryz.ntmps15
        go_upto_region 1 with fail
        rw [HW.out]
        go_wp2_with fail
        obtain ⟨hsm, hft, b1⟩ := HS.out
        refine (hsm).mono ?_
        clear hsm hft
        rintro e w2 ⟨rfl, b2⟩
        have y0 := below_c z0 b2
        have y1 := below_c z1 b2
        have y2 := below_c z2 b2
        have y3 := below_c z3 b2
        have y4 := below_c z4 b2
        have y5 := below_c z5 b2
        have y6 := below_c z6 b2
        have y7 := below_c z7 b2
        have b12 := bb b1 b2
        clear z0 z1 z2 z3 z4 z5 z6 z7
        go_wp2_with fail
        all_goals (go_ret; refine ⟨?_, b12⟩; cases tb <;> simp at hti <;> (first | rfl | (simp [kempty, *]; done) | (exfalso; omega) | (simp [kempty, *]; omega)))
    · have d1 : decide (due ≥ 0) = true := decide_eq_true (by omega)
      have d2 : decide (due ≤ 9007199254740992) = true := decide_eq_true (by omega)
      cases zb with
      | false =>
        go_enter Tryz.func15, Tryz.ntmps15
        go_upto_region 1 with fail
        rw [HW.out]
        go_wp2_with fail
        obtain ⟨hsm, hft, b1⟩ := HS.out
        refine (hsm).mono ?_
        clear hsm hft
        rintro e w2 ⟨rfl, b2⟩
        have y0 := below_c z0 b2
        have y1 := below_c z1 b2
        have y2 := below_c z2 b2
        have y3 := below_c z3 b2
        have y4 := below_c z4 b2
        have y5 := below_c z5 b2
        have y6 := below_c z6 b2
        have y7 := below_c z7 b2
        have b12 := bb b1 b2
        clear z0 z1 z2 z3 z4 z5 z6 z7
        go_wp2_with fail
        all_goals (go_ret; refine ⟨?_, b12⟩; cases tb <;> simp at hti <;> (first | rfl | (simp [kempty, *]; done) | (exfalso; omega) | (simp [kempty, *]; omega)))
      | true =>
        go_enter Tryz.func15, Tryz.ntmps15
        go_upto_region 1 with fail
        rw [HW.out]
        go_wp2_with fail
        obtain ⟨hsm, hft, b1⟩ := HS.out
        refine (hsm).mono ?_
        clear hsm hft
        rintro e w2 ⟨rfl, b2⟩
        have y0 := below_c z0 b2
        have y1 := below_c z1 b2
        have y2 := below_c z2 b2
        have y3 := below_c z3 b2
        have y4 := below_c z4 b2
        have y5 := below_c z5 b2
        have y6 := below_c z6 b2
        have y7 := below_c z7 b2
        have b12 := bb b1 b2
        clear z0 z1 z2 z3 z4 z5 z6 z7
        go_wp2_with fail
        all_goals (go_ret; refine ⟨?_, b12⟩; cases tb <;> simp at hti <;> (first | rfl | (simp [kempty, *]; done) | (exfalso; omega) | (simp [kempty, *]; omega)))
    · have d1 : decide (due ≥ 0) = true := decide_eq_true (by omega)
      have d2 : decide (due ≤ 9007199254740992) = false := decide_eq_false (by omega)
      cases zb with
      | false =>
        go_enter Tryz.func15, Tryz.ntmps15
        go_upto_region 1 with fail
        rw [HW.out]
        go_wp2_with fail
        obtain ⟨hsm, hft, b1⟩ := HS.out
        refine (hsm).mono ?_
        clear hsm hft
        rintro e w2 ⟨rfl, b2⟩
        have y0 := below_c z0 b2
        have y1 := below_c z1 b2
        have y2 := below_c z2 b2
        have y3 := below_c z3 b2
        have y4 := below_c z4 b2
        have y5 := below_c z5 b2
        have y6 := below_c z6 b2
        have y7 := below_c z7 b2
        have b12 := bb b1 b2
        clear z0 z1 z2 z3 z4 z5 z6 z7
        go_wp2_with fail
        all_goals (go_ret; refine ⟨?_, b12⟩; cases tb <;> simp at hti <;> (first | rfl | (simp [kempty, *]; done) | (exfalso; omega) | (simp [kempty, *]; omega)))
      | true =>
        go_enter Tryz.func15, Tryz.ntmps15
        go_upto_region 1 with fail
        rw [HW.out]
        go_wp2_with fail
        obtain ⟨hsm, hft, b1⟩ := HS.out
        refine (hsm).mono ?_
        clear hsm hft
        rintro e w2 ⟨rfl, b2⟩
        have y0 := below_c z0 b2
        have y1 := below_c z1 b2
        have y2 := below_c z2 b2
        have y3 := below_c z3 b2
        have y4 := below_c z4 b2
        have y5 := below_c z5 b2
        have y6 := below_c z6 b2
        have y7 := below_c z7 b2
        have b12 := bb b1 b2
        clear z0 z1 z2 z3 z4 z5 z6 z7
        go_wp2_with fail
        all_goals (go_ret; refine ⟨?_, b12⟩; cases tb <;> simp at hti <;> (first | rfl | (simp [kempty, *]; done) | (exfalso; omega) | (simp [kempty, *]; omega)))
  by_cases k4 : kind = 4
  · subst k4
    rw [if_neg k1, if_neg k2, if_neg k3, if_pos rfl]
    clear k1
    clear k2
    clear k3
    rcases (show due < 0 ∨ (0 ≤ due ∧ due ≤ 9007199254740992) ∨ (0 ≤ due ∧ 9007199254740992 < due) by omega) with hd | ⟨hd, hd2⟩ | ⟨hd, hd2⟩
    · have d1 : decide (due ≥ 0) = false := decide_eq_false (by omega)
      cases zb with
      | false =>
        go_enter Tryz.func15, Tryz.ntmps15
        go_upto_region 1 with fail
        rw [HW.out]
        go_wp2_with fail
        obtain ⟨hsm, hft, b1⟩ := HS.out
        refine (hsm).mono ?_
        clear hsm hft
        rintro e w2 ⟨rfl, b2⟩
        have y0 := below_c z0 b2
        have y1 := below_c z1 b2
        have y2 := below_c z2 b2
        have y3 := below_c z3 b2
        have y4 := below_c z4 b2
        have y5 := below_c z5 b2
        have y6 := below_c z6 b2
        have y7 := below_c z7 b2
        have b12 := bb b1 b2
        clear z0 z1 z2 z3 z4 z5 z6 z7
        go_wp2_with fail
        all_goals (go_ret; refine ⟨?_, b12⟩; cases tb <;> simp at hti <;> (first | rfl | (simp [kempty, *]; done) | (exfalso; omega) | (simp [kempty, *]; omega)))
      | true =>
        go_enter Tryz.func15, Tryz.ntmps15
        go_upto_region 1 with fail
        rw [HW.out]
        go_wp2_with fail
        obtain ⟨hsm, hft, b1⟩ := HS.out
        refine (hsm).mono ?_
        clear hsm hft
        rintro e w2 ⟨rfl, b2⟩
        have y0 := below_c z0 b2
        have y1 := below_c z1 b2
        have y2 := below_c z2 b2
        have y3 := below_c z3 b2
        have y4 := below_c z4 b2
        have y5 := below_c z5 b2
        have y6 := below_c z6 b2
        have y7 := below_c z7 b2
        have b12 := bb b1 b2
        clear z0 z1 z2 z3 z4 z5 z6 z7
        go_wp2_with fail
        all_goals (go_ret; refine ⟨?_, b12⟩; cases tb <;> simp at hti <;> (first | rfl | (simp [kempty, *]; done) | (exfalso; omega) | (simp [kempty, *]; omega)))
    · have d1 : decide (due ≥ 0) = true := decide_eq_true (by omega)
      have d2 : decide (due ≤ 9007199254740992) = true := decide_eq_true (by omega)
      cases zb with
      | false =>
        go_enter Tryz.func15, Tryz.ntmps15
        go_upto_region 1 with fail
        rw [HW.out]
        go_wp2_with fail
        obtain ⟨hsm, hft, b1⟩ := HS.out
        refine (hsm).mono ?_
        clear hsm hft
        rintro e w2 ⟨rfl, b2⟩
        have y0 := below_c z0 b2
        have y1 := below_c z1 b2
        have y2 := below_c z2 b2
        have y3 := below_c z3 b2
        have y4 := below_c z4 b2
        have y5 := below_c z5 b2
        have y6 := below_c z6 b2
        have y7 := below_c z7 b2
        have b12 := bb b1 b2
        clear z0 z1 z2 z3 z4 z5 z6 z7
        go_wp2_with fail
        all_goals (go_ret; refine ⟨?_, b12⟩; cases tb <;> simp at hti <;> (first | rfl | (simp [kempty, *]; done) | (exfalso; omega) | (simp [kempty, *]; omega)))
      | true =>
        go_enter Tryz.func15, Tryz.ntmps15
        go_upto_region 1 with fail
        rw [HW.out]
        go_wp2_with fail
        obtain ⟨hsm, hft, b1⟩ := HS.out
        refine (hsm).mono ?_
        clear hsm hft
        rintro e w2 ⟨rfl, b2⟩
        have y0 := below_c z0 b2
        have y1 := below_c z1 b2
        have y2 := below_c z2 b2
        have y3 := below_c z3 b2
        have y4 := below_c z4 b2
        have y5 := below_c z5 b2
        have y6 := below_c z6 b2
        have y7 := below_c z7 b2
        have b12 := bb b1 b2
        clear z0 z1 z2 z3 z4 z5 z6 z7
        go_wp2_with fail
        all_goals (go_ret; refine ⟨?_, b12⟩; cases tb <;> simp at hti <;> (first | rfl | (simp [kempty, *]; done) | (exfalso; omega) | (simp [kempty, *]; omega)))
    · have d1 : decide (due ≥ 0) = true := decide_eq_true (by omega)
      have d2 : decide (due ≤ 9007199254740992) = false := decide_eq_false (by omega)
      cases zb with
      | false =>
        go_enter Tryz.func15, Tryz.ntmps15
        go_upto_region 1 with fail
        rw [HW.out]
        go_wp2_with fail
        obtain ⟨hsm, hft, b1⟩ := HS.out
        refine (hsm).mono ?_
        clear hsm hft
        rintro e w2 ⟨rfl, b2⟩
        have y0 := below_c z0 b2
        have y1 := below_c z1 b2
        have y2 := below_c z2 b2
        have y3 := below_c z3 b2
        have y4 := below_c z4 b2
        have y5 := below_c z5 b2
        have y6 := below_c z6 b2
        have y7 := below_c z7 b2
        have b12 := bb b1 b2
        clear z0 z1 z2 z3 z4 z5 z6 z7
        go_wp2_with fail
        all_goals (go_ret; refine ⟨?_, b12⟩; cases tb <;> simp at hti <;> (first | rfl | (simp [kempty, *]; done) | (exfalso; omega) | (simp [kempty, *]; omega)))
      | true =>
        go_enter Tryz.func15, Tryz.ntmps15
        go_upto_region 1 with fail
        rw [HW.out]
        go_wp2_with fail
        obtain ⟨hsm, hft, b1⟩ := HS.out
        refine (hsm).mono ?_
        clear hsm hft
        rintro e w2 ⟨rfl, b2⟩
        have y0 := below_c z0 b2
        have y1 := below_c z1 b2
        have y2 := below_c z2 b2
        have y3 := below_c z3 b2
        have y4 := below_c z4 b2
        have y5 := below_c z5 b2
        have y6 := below_c z6 b2
        have y7 := below_c z7 b2
        have b12 := bb b1 b2
        clear z0 z1 z2 z3 z4 z5 z6 z7
        go_wp2_with fail
        all_goals (go_ret; refine ⟨?_, b12⟩; cases tb <;> simp at hti <;> (first | rfl | (simp [kempty, *]; done) | (exfalso; omega) | (simp [kempty, *]; omega)))
  · have q1 : (kind == 1) = false := by simpa using k1
    have q2 : (kind == 2) = false := by simpa using k2
    have q3 : (kind == 3) = false := by simpa using k3
    have q4 : (kind == 4) = false := by simpa using k4
    rw [if_neg k1, if_neg k2, if_neg k3, if_neg k4]
    rcases (show due < 0 ∨ (0 ≤ due ∧ due ≤ 9007199254740992) ∨ (0 ≤ due ∧ 9007199254740992 < due) by omega) with hd | ⟨hd, hd2⟩ | ⟨hd, hd2⟩
    · have d1 : decide (due ≥ 0) = false := decide_eq_false (by omega)
      go_enter Tryz.func15, Tryz.ntmps15
      go_upto_region 1 with fail
      rw [HW.out]
      go_wp2_with fail
      all_goals (go_ret; exact ⟨rfl, HS.out.2.2⟩)
    · have d1 : decide (due ≥ 0) = true := decide_eq_true (by omega)
      have d2 : decide (due ≤ 9007199254740992) = true := decide_eq_true (by omega)
      go_enter Tryz.func15, Tryz.ntmps15
      go_upto_region 1 with fail
      rw [HW.out]
      go_wp2_with fail
      all_goals (go_ret; exact ⟨rfl, HS.out.2.2⟩)
    · have d1 : decide (due ≥ 0) = true := decide_eq_true (by omega)
      have d2 : decide (due ≤ 9007199254740992) = false := decide_eq_false (by omega)
      go_enter Tryz.func15, Tryz.ntmps15
      go_upto_region 1 with fail
      rw [HW.out]
      go_wp2_with fail
      all_goals (go_ret; exact ⟨rfl, HS.out.2.2⟩)
end Go.Proofs.YtgmnnpbbiejbnaaGreat.EfA
