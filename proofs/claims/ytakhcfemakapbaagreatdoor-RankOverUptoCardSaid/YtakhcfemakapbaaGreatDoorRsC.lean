/-
  sort.partitionEqual_func where 'less' may lay blocks. Conditions: as stated. (Printed by tools/gen_swh.py.)
  sort.partition_func where 'less' may lay blocks. Conditions: as stated. (Printed by tools/gen_swh.py.)
-/
import Derived.Test.YtakhcfemakapbaaGreatDoorSwA
import Derived.Deep.CutRange
import Derived.Deep.CutBlock
import Derived.Deep.DeepCutAuto
import Derived.Deep.LoopGhost
import Derived.Sort.AtCall
import Derived.Sort.LotC
set_option maxRecDepth 100000
set_option linter.unusedSimpArgs false
set_option linter.unusedVariables false
namespace Go.Proofs.YtakhcfemakapbaaGreatDoor.SwH
open Go Go.Shelf Go.RowKit Go.Sort Go.Proofs.YtakhcfemakapbaaGreatDoor.Mem Go.Proofs.YtakhcfemakapbaaGreatDoor.DuM Go.Proofs.YtakhcfemakapbaaGreatDoor.SwA
variable {α : Type} [Inhabited α]
theorem up_step (p : α → Bool) (d : Array α) (j i : Nat) (h : i ≤ j) (hp : p d[i]! = true) : scanUp p d j i = scanUp p d j (i + 1) := by rw [scanUp.eq_def, if_pos (by simp [h, hp])]
theorem up_stop1 (p : α → Bool) (d : Array α) (j i : Nat) (h : ¬ i ≤ j) : scanUp p d j i = i := by rw [scanUp.eq_def, if_neg (by simp [h])]
theorem up_stop2 (p : α → Bool) (d : Array α) (j i : Nat) (hp : p d[i]! = false) : scanUp p d j i = i := by rw [scanUp.eq_def, if_neg (by simp [hp])]
theorem down_step (p : α → Bool) (d : Array α) (i j m : Nat) (hj : j = m + 1) (h : i ≤ j) (hp : p d[j]! = true) : scanDown p d i j = scanDown p d i m := by
  subst hj
  rw [scanDown, if_pos (by simp [h, hp])]
theorem down_stop1 (p : α → Bool) (d : Array α) (i j : Nat) (h : ¬ i ≤ j) : scanDown p d i j = j := by
  cases j with
  | zero => rfl
  | succ m => rw [scanDown, if_neg (by simp [h])]
theorem down_stop2 (p : α → Bool) (d : Array α) (i j : Nat) (hp : p d[j]! = false) : scanDown p d i j = j := by
  cases j with
  | zero => rfl
  | succ m => rw [scanDown, if_neg (by simp [hp])]
section
variable {enc : α → List Value} {k : Nat} {lt : α → α → Bool} {g : Nat} {lb : Array Value} {sf : Nat} {sb : Array Value} {blk off size : Nat} {w0 : World}
set_option maxHeartbeats 16000000 in
theorem partEq_calls (E : Env enc k lt g lb sf sb blk off size w0) (a b pivot : Nat) (d : Array α) (W : World) (h : SWK enc k w0 blk off d W) (hs : d.size = size) (hap : a ≤ pivot) (hpb : pivot < b) (hb : b ≤ size) :
    Calls Tryz.prog 95 #[dV g lb sf sb, .int .i64 a, .int .i64 b, .int .i64 pivot] W fun e w' => e = .returned (.int .i64 ((partitionEqual lt d a b pivot).1 : Nat)) ∧ St enc k blk off w0 W (partitionEqual lt d a b pivot).2 w' := by
  have hsz := E.hsz
  have hbl : blk < W.heap.size := h.lt E.hblk
  have eg := E.eg
  have s0 : St enc k blk off w0 W d (W.alloc (.cells #[.func (.func g) #[] lb, .func (.func sf) #[] sb] 105)) := (St.start h).alloc _
  have x0 := Bx.new W (.func (.func g) #[] lb) (.func (.func sf) #[] sb) 105 hbl
  obtain ⟨d1, hd1⟩ : ∃ d1, d1 = Sort.swp d a pivot := ⟨_, rfl⟩
  have hds : d1.size = size := by rw [hd1, swp_size]; exact hs
  obtain ⟨W2, hsw, s1, o1⟩ := E.swp s0 hs (i := a) (j := pivot) (by omega) (by omega)
  rw [← hd1] at s1
  have HD1 := Lib.hid hd1
  clear hd1
  have x1 := x0.only o1
  have H0 := Lib.hid (And.intro s1 x1)
  obtain ⟨c0', c1', -, -⟩ := x0
  clear s0 s1 x1 o1 h
  go_enter Tryz.func95, Tryz.ntmps95
  go_wp2_with fail
  go_loopg [9, 10] (b - 1 + 1 - (a + 1)) (fun k9 iv jv wr => ∃ (i j : Nat) (dk : Array α), iv = .int .i64 i ∧ jv = .int .i64 j ∧ k9 = j + 1 - i ∧ a < i ∧ i ≤ j + 1 ∧ j < b ∧ dk.size = size ∧ Hid (St enc k blk off w0 W dk wr ∧ Bx W.heap.size (.func (.func g) #[] lb) (.func (.func sf) #[] sb) blk wr ∧ partEqLoop lt a i j dk = partitionEqual lt d a b pivot))
  case atStart => exact ⟨a + 1, b - 1, d1, by simp, by congr 1; omega, rfl, by omega, by omega, by omega, hds, Lib.hid ⟨H0.out.1, H0.out.2, by rw [HD1.out]; rfl⟩⟩
  case round =>
    clear hsw hds c0' c1'
    obtain ⟨i, j, dk, rfl, rfl, hk0, hai, hij, hjb, hds, hR⟩ := hrel
    have HK0 := Lib.hid hk0
    have HS0 := Lib.hid (And.intro hR.out.1 hR.out.2.1)
    have HE0 := Lib.hid hR.out.2.2
    clear hk0 hR
    obtain ⟨c0, c1, -, -⟩ := HS0.out.2
    go_upto_block 2 with fail
    go_cut [9] (fun s7 wc => s7 = .int .i64 ((scanUp (fun x => !lt dk[a]! x) dk j i : Nat) : Int) ∧ Hid (St enc k blk off w0 W dk wc ∧ Bx W.heap.size (.func (.func g) #[] lb) (.func (.func sf) #[] sb) blk wc))
    case first =>
      go_wp2_with fail
      go_loopg [9] (j + 1 - i) (fun k7 s7 wx => ∃ x : Nat, s7 = .int .i64 x ∧ k7 = j + 1 - x ∧ i ≤ x ∧ x ≤ j + 1 ∧ Hid (St enc k blk off w0 W dk wx ∧ Bx W.heap.size (.func (.func g) #[] lb) (.func (.func sf) #[] sb) blk wx ∧ scanUp (fun x => !lt dk[a]! x) dk j x = scanUp (fun x => !lt dk[a]! x) dk j i))
      case atStart => exact ⟨i, rfl, rfl, Nat.le_refl _, hij, Lib.hid ⟨HS0.out.1, HS0.out.2, rfl⟩⟩
      case round =>
        obtain ⟨x, rfl, hk7, hix, hxj, hX⟩ := hrel
        have HST := Lib.hid hX.out.1
        have HXB := Lib.hid hX.out.2.1
        have HE := Lib.hid hX.out.2.2
        have HK := Lib.hid hk7
        clear hk7 hX c0 c1
        obtain ⟨c0, c1, -, -⟩ := HXB.out
        by_cases hxl : x ≤ j
        · have hl := E.less wr dk HST.out.sw hds a x (by omega) (by omega)
          cases hv : lt dk[a]! dk[x]!
          · rw [hv] at hl
            have HV := Lib.hid hv
            clear hv
            go_wp2_with (go_at_fn g; refine hl.mono ?_; rintro e w1 ⟨rfl, q, os, hw1⟩; have st1 := Lib.hid (show St enc k blk off w0 W dk w1 by rw [hw1]; exact HST.out.grow q os); have x1 := Lib.hid (HXB.out.only (show Only (fun b => b = blk) wr w1 by rw [hw1]; exact only_grow _ q os)); clear hw1)
            go_roundg (j + 1 - (x + 1))
            case measure => have := HK.out; omega
            case rel => exact ⟨x + 1, by simp, rfl, by omega, by omega, Lib.hid ⟨st1.out, x1.out, by rw [← HE.out]; exact (up_step _ _ _ _ hxl (by simp [HV.out])).symm⟩⟩
          · rw [hv] at hl
            have HV := Lib.hid hv
            clear hv
            go_wp2_with (go_at_fn g; refine hl.mono ?_; rintro e w1 ⟨rfl, q, os, hw1⟩; have st1 := Lib.hid (show St enc k blk off w0 W dk w1 by rw [hw1]; exact HST.out.grow q os); have x1 := Lib.hid (HXB.out.only (show Only (fun b => b = blk) wr w1 by rw [hw1]; exact only_grow _ q os)); clear hw1)
            go_meet
            case rel => exact ⟨by rw [← HE.out, up_stop2 _ _ _ _ (by simp [HV.out])], Lib.hid ⟨st1.out, x1.out⟩⟩
        · go_wp2_with fail
          go_meet
          case rel => exact ⟨by rw [← HE.out, up_stop1 _ _ _ _ hxl], Lib.hid ⟨HST.out, HXB.out⟩⟩
    case rest =>
      obtain ⟨h7, hCu⟩ := hcut
      obtain ⟨i2, hi2⟩ : ∃ i2, i2 = scanUp (fun x => !lt dk[a]! x) dk j i := ⟨_, rfl⟩
      rw [← hi2] at h7
      subst h7
      obtain ⟨hi21, hi22, -, hi24⟩ := scanUp_spec (fun x => !lt dk[a]! x) dk j _ i rfl
      rw [← hi2] at hi21 hi22 hi24
      have HU4 := Lib.hid hi24
      clear hi24
      have hi23 := hi22 hij
      have HI2 := Lib.hid hi2
      clear hi2 hi22 hij c0 c1
      have hij := hi23
      obtain ⟨c0, c1, -, -⟩ := hCu.out.2
      go_upto_block 4 with fail
      go_cut [10] (fun s7 wc => s7 = .int .i64 ((scanDown (fun x => lt dk[a]! x) dk i2 j : Nat) : Int) ∧ Hid (St enc k blk off w0 W dk wc ∧ Bx W.heap.size (.func (.func g) #[] lb) (.func (.func sf) #[] sb) blk wc))
      case first =>
        go_wp2_with fail
        go_loopg [10] (j + 1 - i2) (fun k7 s7 wx => ∃ x : Nat, s7 = .int .i64 x ∧ k7 = x + 1 - i2 ∧ i2 ≤ x + 1 ∧ x ≤ j ∧ Hid (St enc k blk off w0 W dk wx ∧ Bx W.heap.size (.func (.func g) #[] lb) (.func (.func sf) #[] sb) blk wx ∧ scanDown (fun x => lt dk[a]! x) dk i2 x = scanDown (fun x => lt dk[a]! x) dk i2 j))
        case atStart => exact ⟨j, rfl, rfl, hij, Nat.le_refl _, Lib.hid ⟨hCu.out.1, hCu.out.2, rfl⟩⟩
        case round =>
          obtain ⟨x, rfl, hk7, hix, hxj, hX⟩ := hrel
          have HST := Lib.hid hX.out.1
          have HXB := Lib.hid hX.out.2.1
          have HE := Lib.hid hX.out.2.2
          have HK := Lib.hid hk7
          clear hk7 hX c0 c1
          obtain ⟨c0, c1, -, -⟩ := HXB.out
          by_cases hxl : i2 ≤ x
          · obtain ⟨m, hm⟩ : ∃ m, x = m + 1 := ⟨x - 1, by omega⟩
            have hxm : (x : Int) - 1 = (m : Int) := by omega
            have HM := Lib.hid hm
            clear hm
            have hl := E.less wr dk HST.out.sw hds a x (by omega) (by omega)
            cases hv : lt dk[a]! dk[x]!
            · rw [hv] at hl
              have HV := Lib.hid hv
              clear hv
              go_wp2_with (go_at_fn g; refine hl.mono ?_; rintro e w1 ⟨rfl, q, os, hw1⟩; have st1 := Lib.hid (show St enc k blk off w0 W dk w1 by rw [hw1]; exact HST.out.grow q os); have x1 := Lib.hid (HXB.out.only (show Only (fun b => b = blk) wr w1 by rw [hw1]; exact only_grow _ q os)); clear hw1)
              go_meet
              case rel => exact ⟨by rw [← HE.out, down_stop2 _ _ _ _ (by simp [HV.out])], Lib.hid ⟨st1.out, x1.out⟩⟩
            · rw [hv] at hl
              have HV := Lib.hid hv
              clear hv
              go_wp2_with (go_at_fn g; refine hl.mono ?_; rintro e w1 ⟨rfl, q, os, hw1⟩; have st1 := Lib.hid (show St enc k blk off w0 W dk w1 by rw [hw1]; exact HST.out.grow q os); have x1 := Lib.hid (HXB.out.only (show Only (fun b => b = blk) wr w1 by rw [hw1]; exact only_grow _ q os)); clear hw1)
              go_roundg (m + 1 - i2)
              case measure => have := HK.out; have := HM.out; omega
              case rel => exact ⟨m, by first | rfl | rw [hxm], rfl, by have := HM.out; omega, by have := HM.out; omega, Lib.hid ⟨st1.out, x1.out, by rw [← HE.out]; exact (down_step _ _ _ _ _ HM.out hxl (by simp [HV.out])).symm⟩⟩
          · go_wp2_with fail
            go_meet
            case rel => exact ⟨by rw [← HE.out, down_stop1 _ _ _ _ hxl], Lib.hid ⟨HST.out, HXB.out⟩⟩
      case rest =>
        obtain ⟨h7, hCd⟩ := hcut
        obtain ⟨j2, hj2⟩ : ∃ j2, j2 = scanDown (fun x => lt dk[a]! x) dk i2 j := ⟨_, rfl⟩
        rw [← hj2] at h7
        subst h7
        obtain ⟨hj21, hj22, -, hj24⟩ := scanDown_spec (fun x => lt dk[a]! x) dk i2 j
        rw [← hj2] at hj21 hj22 hj24
        have hlt2 : i2 ≤ j2 → i2 < j2 := by
          intro h1
          rcases Nat.lt_or_ge i2 j2 with h2 | h2
          · exact h2
          · have h3 : i2 = j2 := Nat.le_antisymm h1 h2
            have h4 := HU4.out (by omega)
            have h5 := hj24 h1 (by omega)
            rw [h3] at h4
            revert h4 h5
            cases lt dk[a]! dk[j2]! <;> simp
        clear hj24
        have hj23 := hj22 hij
        have HJ2 := Lib.hid hj2
        clear hj2 hj22 c0 c1
        obtain ⟨c0, c1, -, -⟩ := hCd.out.2
        by_cases hgt : i2 > j2
        · have hE := HE0.out
          rw [partEqLoop_eq, ← HI2.out, ← HJ2.out, if_pos hgt] at hE
          have HE := Lib.hid hE
          clear hE
          have hgz : (j2 : Int) < (i2 : Int) := by omega
          go_wp2_with fail
          go_ret
          exact ⟨by rw [← HE.out]; rfl, by rw [← HE.out]; exact hCd.out.1⟩
        · have hE := HE0.out
          rw [partEqLoop_eq, ← HI2.out, ← HJ2.out, if_neg hgt] at hE
          have HE := Lib.hid hE
          clear hE
          have hgz : ¬ (j2 : Int) < (i2 : Int) := by omega
          obtain ⟨W3, hsw, st3, on3⟩ := E.swp hCd.out.1 hds (i := i2) (j := j2) (by omega) (by omega)
          have ST3 := Lib.hid (And.intro st3 (hCd.out.2.only on3))
          clear st3 on3
          go_wp2_with fail
          go_roundg (j2 - 1 + 1 - (i2 + 1))
          case measure => have := HK0.out; omega
          case rel => exact ⟨i2 + 1, j2 - 1, Sort.swp dk i2 j2, by simp, by congr 1; omega, rfl, by omega, by omega, by omega, by rw [swp_size]; exact hds, Lib.hid ⟨ST3.out.1, ST3.out.2, HE.out⟩⟩
end
end Go.Proofs.YtakhcfemakapbaaGreatDoor.SwH
set_option maxRecDepth 100000
set_option linter.unusedSimpArgs false
set_option linter.unusedVariables false
namespace Go.Proofs.YtakhcfemakapbaaGreatDoor.SwI
open Go Go.Shelf Go.RowKit Go.Sort Go.Proofs.YtakhcfemakapbaaGreatDoor.Mem Go.Proofs.YtakhcfemakapbaaGreatDoor.DuM Go.Proofs.YtakhcfemakapbaaGreatDoor.SwA Go.Proofs.YtakhcfemakapbaaGreatDoor.SwH
variable {α : Type} [Inhabited α]
section
variable {enc : α → List Value} {k : Nat} {lt : α → α → Bool} {g : Nat} {lb : Array Value} {sf : Nat} {sb : Array Value} {blk off size : Nat} {w0 : World}
set_option maxHeartbeats 16000000 in
theorem part_calls (E : Env enc k lt g lb sf sb blk off size w0) (a b pivot : Nat) (d : Array α) (W : World) (h : SWK enc k w0 blk off d W) (hs : d.size = size) (hap : a ≤ pivot) (hpb : pivot < b) (hb : b ≤ size) :
    Calls Tryz.prog 96 #[dV g lb sf sb, .int .i64 a, .int .i64 b, .int .i64 pivot] W fun e w' => e = .returned (.tuple #[.int .i64 ((partition lt d a b pivot).1 : Nat), .bool (partition lt d a b pivot).2.1]) ∧ St enc k blk off w0 W (partition lt d a b pivot).2.2 w' := by
  have hsz := E.hsz
  have hbl : blk < W.heap.size := h.lt E.hblk
  have eg := E.eg
  have s0 : St enc k blk off w0 W d (W.alloc (.cells #[.func (.func g) #[] lb, .func (.func sf) #[] sb] 105)) := (St.start h).alloc _
  have x0 := Bx.new W (.func (.func g) #[] lb) (.func (.func sf) #[] sb) 105 hbl
  obtain ⟨d1, hd1⟩ : ∃ d1, d1 = Sort.swp d a pivot := ⟨_, rfl⟩
  have hds : d1.size = size := by rw [hd1, swp_size]; exact hs
  obtain ⟨W2, hsw, s1, o1⟩ := E.swp s0 hs (i := a) (j := pivot) (by omega) (by omega)
  rw [← hd1] at s1
  have HD1 := Lib.hid hd1
  clear hd1
  have x1 := x0.only o1
  have H0 := Lib.hid (And.intro s1 x1)
  obtain ⟨c0', c1', -, -⟩ := x0
  clear s0 s1 x1 o1 h
  obtain ⟨i, hi⟩ : ∃ i, i = a + 1 := ⟨_, rfl⟩
  obtain ⟨j, hj⟩ : ∃ j, j = b - 1 := ⟨_, rfl⟩
  have hiz : (a : Int) + 1 = (i : Int) := by omega
  have hjz : (b : Int) - 1 = (j : Int) := by omega
  have hai : a < i := by omega
  have hij : i ≤ j + 1 := by omega
  have hjb : j < b := by omega
  have HI := Lib.hid hi
  have HJB := Lib.hid hj
  clear hi hj
  go_enter Tryz.func96, Tryz.ntmps96
  go_upto_region 2 with fail
  clear c0' c1' hsw
  obtain ⟨c0, c1, -, -⟩ := H0.out.2
  go_upto_block 0 with fail
  go_cut [10] (fun s7 wc => s7 = .int .i64 ((scanUp (fun x => lt x d1[a]!) d1 j i : Nat) : Int) ∧ Hid (St enc k blk off w0 W d1 wc ∧ Bx W.heap.size (.func (.func g) #[] lb) (.func (.func sf) #[] sb) blk wc))
  case first =>
    go_wp2_with fail
    go_loopg [10] (j + 1 - i) (fun k7 s7 wx => ∃ x : Nat, s7 = .int .i64 x ∧ k7 = j + 1 - x ∧ i ≤ x ∧ x ≤ j + 1 ∧ Hid (St enc k blk off w0 W d1 wx ∧ Bx W.heap.size (.func (.func g) #[] lb) (.func (.func sf) #[] sb) blk wx ∧ scanUp (fun x => lt x d1[a]!) d1 j x = scanUp (fun x => lt x d1[a]!) d1 j i))
    case atStart => exact ⟨i, rfl, rfl, Nat.le_refl _, hij, Lib.hid ⟨H0.out.1, H0.out.2, rfl⟩⟩
    case round =>
      obtain ⟨x, rfl, hk7, hix, hxj, hX⟩ := hrel
      have HST := Lib.hid hX.out.1
      have HXB := Lib.hid hX.out.2.1
      have HE := Lib.hid hX.out.2.2
      have HK := Lib.hid hk7
      clear hk7 hX c0 c1
      obtain ⟨c0, c1, -, -⟩ := HXB.out
      by_cases hxl : x ≤ j
      · have hl := E.less wr d1 HST.out.sw hds x a (by omega) (by omega)
        cases hv : lt d1[x]! d1[a]!
        · rw [hv] at hl
          have HV := Lib.hid hv
          clear hv
          go_wp2_with (go_at_fn g; refine hl.mono ?_; rintro e w1 ⟨rfl, q, os, hw1⟩; have st1 := Lib.hid (show St enc k blk off w0 W d1 w1 by rw [hw1]; exact HST.out.grow q os); have x1 := Lib.hid (HXB.out.only (show Only (fun b => b = blk) wr w1 by rw [hw1]; exact only_grow _ q os)); clear hw1)
          go_meet
          case rel => exact ⟨by rw [← HE.out, up_stop2 _ _ _ _ (by simp [HV.out])], Lib.hid ⟨st1.out, x1.out⟩⟩
        · rw [hv] at hl
          have HV := Lib.hid hv
          clear hv
          go_wp2_with (go_at_fn g; refine hl.mono ?_; rintro e w1 ⟨rfl, q, os, hw1⟩; have st1 := Lib.hid (show St enc k blk off w0 W d1 w1 by rw [hw1]; exact HST.out.grow q os); have x1 := Lib.hid (HXB.out.only (show Only (fun b => b = blk) wr w1 by rw [hw1]; exact only_grow _ q os)); clear hw1)
          go_roundg (j + 1 - (x + 1))
          case measure => have := HK.out; omega
          case rel => exact ⟨x + 1, by simp, rfl, by omega, by omega, Lib.hid ⟨st1.out, x1.out, by rw [← HE.out]; exact (up_step _ _ _ _ hxl (by simp [HV.out])).symm⟩⟩
      · go_wp2_with fail
        go_meet
        case rel => exact ⟨by rw [← HE.out, up_stop1 _ _ _ _ hxl], Lib.hid ⟨HST.out, HXB.out⟩⟩
  case rest =>
    obtain ⟨h7, hCu⟩ := hcut
    obtain ⟨i2, hi2⟩ : ∃ i2, i2 = scanUp (fun x => lt x d1[a]!) d1 j i := ⟨_, rfl⟩
    rw [← hi2] at h7
    subst h7
    obtain ⟨hi21, hi22, -, hi24⟩ := scanUp_spec (fun x => lt x d1[a]!) d1 j _ i rfl
    rw [← hi2] at hi21 hi22 hi24
    have HU4 := Lib.hid hi24
    clear hi24
    have hi23 := hi22 hij
    have HI2 := Lib.hid hi2
    clear hi2 hi22 hij c0 c1
    have hij := hi23
    obtain ⟨c0, c1, -, -⟩ := hCu.out.2
    go_upto_block 2 with fail
    go_cut [11] (fun s7 wc => s7 = .int .i64 ((scanDown (fun x => !lt x d1[a]!) d1 i2 j : Nat) : Int) ∧ Hid (St enc k blk off w0 W d1 wc ∧ Bx W.heap.size (.func (.func g) #[] lb) (.func (.func sf) #[] sb) blk wc))
    case first =>
      go_wp2_with fail
      go_loopg [11] (j + 1 - i2) (fun k7 s7 wx => ∃ x : Nat, s7 = .int .i64 x ∧ k7 = x + 1 - i2 ∧ i2 ≤ x + 1 ∧ x ≤ j ∧ Hid (St enc k blk off w0 W d1 wx ∧ Bx W.heap.size (.func (.func g) #[] lb) (.func (.func sf) #[] sb) blk wx ∧ scanDown (fun x => !lt x d1[a]!) d1 i2 x = scanDown (fun x => !lt x d1[a]!) d1 i2 j))
      case atStart => exact ⟨j, rfl, rfl, hij, Nat.le_refl _, Lib.hid ⟨hCu.out.1, hCu.out.2, rfl⟩⟩
      case round =>
        obtain ⟨x, rfl, hk7, hix, hxj, hX⟩ := hrel
        have HST := Lib.hid hX.out.1
        have HXB := Lib.hid hX.out.2.1
        have HE := Lib.hid hX.out.2.2
        have HK := Lib.hid hk7
        clear hk7 hX c0 c1
        obtain ⟨c0, c1, -, -⟩ := HXB.out
        by_cases hxl : i2 ≤ x
        · obtain ⟨m, hm⟩ : ∃ m, x = m + 1 := ⟨x - 1, by omega⟩
          have hxm : (x : Int) - 1 = (m : Int) := by omega
          have HM := Lib.hid hm
          clear hm
          have hl := E.less wr d1 HST.out.sw hds x a (by omega) (by omega)
          cases hv : lt d1[x]! d1[a]!
          · rw [hv] at hl
            have HV := Lib.hid hv
            clear hv
            go_wp2_with (go_at_fn g; refine hl.mono ?_; rintro e w1 ⟨rfl, q, os, hw1⟩; have st1 := Lib.hid (show St enc k blk off w0 W d1 w1 by rw [hw1]; exact HST.out.grow q os); have x1 := Lib.hid (HXB.out.only (show Only (fun b => b = blk) wr w1 by rw [hw1]; exact only_grow _ q os)); clear hw1)
            go_roundg (m + 1 - i2)
            case measure => have := HK.out; have := HM.out; omega
            case rel => exact ⟨m, by first | rfl | rw [hxm], rfl, by have := HM.out; omega, by have := HM.out; omega, Lib.hid ⟨st1.out, x1.out, by rw [← HE.out]; exact (down_step _ _ _ _ _ HM.out hxl (by simp [HV.out])).symm⟩⟩
          · rw [hv] at hl
            have HV := Lib.hid hv
            clear hv
            go_wp2_with (go_at_fn g; refine hl.mono ?_; rintro e w1 ⟨rfl, q, os, hw1⟩; have st1 := Lib.hid (show St enc k blk off w0 W d1 w1 by rw [hw1]; exact HST.out.grow q os); have x1 := Lib.hid (HXB.out.only (show Only (fun b => b = blk) wr w1 by rw [hw1]; exact only_grow _ q os)); clear hw1)
            go_meet
            case rel => exact ⟨by rw [← HE.out, down_stop2 _ _ _ _ (by simp [HV.out])], Lib.hid ⟨st1.out, x1.out⟩⟩
        · go_wp2_with fail
          go_meet
          case rel => exact ⟨by rw [← HE.out, down_stop1 _ _ _ _ hxl], Lib.hid ⟨HST.out, HXB.out⟩⟩
    case rest =>
      obtain ⟨h7, hCd⟩ := hcut
      obtain ⟨j2, hj2⟩ : ∃ j2, j2 = scanDown (fun x => !lt x d1[a]!) d1 i2 j := ⟨_, rfl⟩
      rw [← hj2] at h7
      subst h7
      obtain ⟨hj21, hj22, -, hj24⟩ := scanDown_spec (fun x => !lt x d1[a]!) d1 i2 j
      rw [← hj2] at hj21 hj22 hj24
      have hlt2 : i2 ≤ j2 → i2 < j2 := by
        intro h1
        rcases Nat.lt_or_ge i2 j2 with h2 | h2
        · exact h2
        · have h3 : i2 = j2 := Nat.le_antisymm h1 h2
          have h4 := HU4.out (by omega)
          have h5 := hj24 h1 (by omega)
          rw [h3] at h4
          revert h4 h5
          cases lt d1[j2]! d1[a]! <;> simp
      clear hj24
      have hj23 := hj22 hij
      have HJ2 := Lib.hid hj2
      clear hj2 hj22 c0 c1
      obtain ⟨c0, c1, -, -⟩ := hCd.out.2
      by_cases hgt : i2 > j2
      · have hP : partition lt d a b pivot = (j2, true, Sort.swp d1 j2 a) := by
          have e1 := HI2.out
          have e2 := HJ2.out
          have e3 := HD1.out
          subst e3
          simp only [partition]
          rw [← HI.out, ← HJB.out, ← e1, ← e2, if_pos hgt]
        have HP := Lib.hid hP
        clear hP
        have hgz : (j2 : Int) < (i2 : Int) := by omega
        obtain ⟨W3, hsw, st3, on3⟩ := E.swp hCd.out.1 hds (i := j2) (j := a) (by omega) (by omega)
        have ST3 := Lib.hid st3
        clear st3 on3
        go_wp2_with fail
        go_ret2
        refine ⟨by rw [HP.out]; rfl, by rw [HP.out]; exact ST3.out⟩
      · obtain ⟨d3, hd3⟩ : ∃ d3, d3 = Sort.swp d1 i2 j2 := ⟨_, rfl⟩
        have hds3 : d3.size = size := by rw [hd3, swp_size]; exact hds
        have hP : partition lt d a b pivot = ((partLoop lt a (i2 + 1) (j2 - 1) d3).1, false, Sort.swp (partLoop lt a (i2 + 1) (j2 - 1) d3).2 (partLoop lt a (i2 + 1) (j2 - 1) d3).1 a) := by
          have e1 := HI2.out
          have e2 := HJ2.out
          have e3 := HD1.out
          subst e3
          simp only [partition]
          rw [← HI.out, ← HJB.out, ← e1, ← e2, if_neg hgt, hd3]
        have HP := Lib.hid hP
        clear hP
        have hgz : ¬ (j2 : Int) < (i2 : Int) := by omega
        obtain ⟨W3, hsw, st3, on3⟩ := E.swp hCd.out.1 hds (i := i2) (j := j2) (by omega) (by omega)
        rw [← hd3] at st3
        have ST3 := Lib.hid (And.intro st3 (hCd.out.2.only on3))
        clear st3 on3 hd3
        go_wp2_with fail
        go_loopg [10, 11] (j2 - 1 + 1 - (i2 + 1)) (fun k9 iv jv wr => ∃ (i j : Nat) (dk : Array α), iv = .int .i64 i ∧ jv = .int .i64 j ∧ k9 = j + 1 - i ∧ a < i ∧ i ≤ j + 1 ∧ j < b ∧ dk.size = size ∧ Hid (St enc k blk off w0 W dk wr ∧ Bx W.heap.size (.func (.func g) #[] lb) (.func (.func sf) #[] sb) blk wr ∧ partLoop lt a i j dk = partLoop lt a (i2 + 1) (j2 - 1) d3))
        case atStart => exact ⟨i2 + 1, j2 - 1, d3, by simp, by congr 1; omega, rfl, by omega, by omega, by omega, hds3, Lib.hid ⟨ST3.out.1, ST3.out.2, rfl⟩⟩
        case round =>
          clear hsw hds c0 c1
          obtain ⟨i, j, dk, rfl, rfl, hk0, hai, hij, hjb, hds, hR⟩ := hrel
          have HK0 := Lib.hid hk0
          have HS0 := Lib.hid (And.intro hR.out.1 hR.out.2.1)
          have HE0 := Lib.hid hR.out.2.2
          clear hk0 hR
          obtain ⟨c0, c1, -, -⟩ := HS0.out.2
          go_upto_block 6 with fail
          go_cut [10] (fun s7 wc => s7 = .int .i64 ((scanUp (fun x => lt x dk[a]!) dk j i : Nat) : Int) ∧ Hid (St enc k blk off w0 W dk wc ∧ Bx W.heap.size (.func (.func g) #[] lb) (.func (.func sf) #[] sb) blk wc))
          case first =>
            go_wp2_with fail
            go_loopg [10] (j + 1 - i) (fun k7 s7 wx => ∃ x : Nat, s7 = .int .i64 x ∧ k7 = j + 1 - x ∧ i ≤ x ∧ x ≤ j + 1 ∧ Hid (St enc k blk off w0 W dk wx ∧ Bx W.heap.size (.func (.func g) #[] lb) (.func (.func sf) #[] sb) blk wx ∧ scanUp (fun x => lt x dk[a]!) dk j x = scanUp (fun x => lt x dk[a]!) dk j i))
            case atStart => exact ⟨i, rfl, rfl, Nat.le_refl _, hij, Lib.hid ⟨HS0.out.1, HS0.out.2, rfl⟩⟩
            case round =>
              obtain ⟨x, rfl, hk7, hix, hxj, hX⟩ := hrel
              have HST := Lib.hid hX.out.1
              have HXB := Lib.hid hX.out.2.1
              have HE := Lib.hid hX.out.2.2
              have HK := Lib.hid hk7
              clear hk7 hX c0 c1
              obtain ⟨c0, c1, -, -⟩ := HXB.out
              by_cases hxl : x ≤ j
              · have hl := E.less wr dk HST.out.sw hds x a (by omega) (by omega)
                cases hv : lt dk[x]! dk[a]!
                · rw [hv] at hl
                  have HV := Lib.hid hv
                  clear hv
                  go_wp2_with (go_at_fn g; refine hl.mono ?_; rintro e w1 ⟨rfl, q, os, hw1⟩; have st1 := Lib.hid (show St enc k blk off w0 W dk w1 by rw [hw1]; exact HST.out.grow q os); have x1 := Lib.hid (HXB.out.only (show Only (fun b => b = blk) wr w1 by rw [hw1]; exact only_grow _ q os)); clear hw1)
                  go_meet
                  case rel => exact ⟨by rw [← HE.out, up_stop2 _ _ _ _ (by simp [HV.out])], Lib.hid ⟨st1.out, x1.out⟩⟩
                · rw [hv] at hl
                  have HV := Lib.hid hv
                  clear hv
                  go_wp2_with (go_at_fn g; refine hl.mono ?_; rintro e w1 ⟨rfl, q, os, hw1⟩; have st1 := Lib.hid (show St enc k blk off w0 W dk w1 by rw [hw1]; exact HST.out.grow q os); have x1 := Lib.hid (HXB.out.only (show Only (fun b => b = blk) wr w1 by rw [hw1]; exact only_grow _ q os)); clear hw1)
                  go_roundg (j + 1 - (x + 1))
                  case measure => have := HK.out; omega
                  case rel => exact ⟨x + 1, by simp, rfl, by omega, by omega, Lib.hid ⟨st1.out, x1.out, by rw [← HE.out]; exact (up_step _ _ _ _ hxl (by simp [HV.out])).symm⟩⟩
              · go_wp2_with fail
                go_meet
                case rel => exact ⟨by rw [← HE.out, up_stop1 _ _ _ _ hxl], Lib.hid ⟨HST.out, HXB.out⟩⟩
          case rest =>
            obtain ⟨h7, hCu⟩ := hcut
            obtain ⟨i2, hi2⟩ : ∃ i2, i2 = scanUp (fun x => lt x dk[a]!) dk j i := ⟨_, rfl⟩
            rw [← hi2] at h7
            subst h7
            obtain ⟨hi21, hi22, -, hi24⟩ := scanUp_spec (fun x => lt x dk[a]!) dk j _ i rfl
            rw [← hi2] at hi21 hi22 hi24
            have HU4 := Lib.hid hi24
            clear hi24
            have hi23 := hi22 hij
            have HI2 := Lib.hid hi2
            clear hi2 hi22 hij c0 c1
            have hij := hi23
            obtain ⟨c0, c1, -, -⟩ := hCu.out.2
            go_upto_block 8 with fail
            go_cut [11] (fun s7 wc => s7 = .int .i64 ((scanDown (fun x => !lt x dk[a]!) dk i2 j : Nat) : Int) ∧ Hid (St enc k blk off w0 W dk wc ∧ Bx W.heap.size (.func (.func g) #[] lb) (.func (.func sf) #[] sb) blk wc))
            case first =>
              go_wp2_with fail
              go_loopg [11] (j + 1 - i2) (fun k7 s7 wx => ∃ x : Nat, s7 = .int .i64 x ∧ k7 = x + 1 - i2 ∧ i2 ≤ x + 1 ∧ x ≤ j ∧ Hid (St enc k blk off w0 W dk wx ∧ Bx W.heap.size (.func (.func g) #[] lb) (.func (.func sf) #[] sb) blk wx ∧ scanDown (fun x => !lt x dk[a]!) dk i2 x = scanDown (fun x => !lt x dk[a]!) dk i2 j))
              case atStart => exact ⟨j, rfl, rfl, hij, Nat.le_refl _, Lib.hid ⟨hCu.out.1, hCu.out.2, rfl⟩⟩
              case round =>
                obtain ⟨x, rfl, hk7, hix, hxj, hX⟩ := hrel
                have HST := Lib.hid hX.out.1
                have HXB := Lib.hid hX.out.2.1
                have HE := Lib.hid hX.out.2.2
                have HK := Lib.hid hk7
                clear hk7 hX c0 c1
                obtain ⟨c0, c1, -, -⟩ := HXB.out
                by_cases hxl : i2 ≤ x
                · obtain ⟨m, hm⟩ : ∃ m, x = m + 1 := ⟨x - 1, by omega⟩
                  have hxm : (x : Int) - 1 = (m : Int) := by omega
                  have HM := Lib.hid hm
                  clear hm
                  have hl := E.less wr dk HST.out.sw hds x a (by omega) (by omega)
                  cases hv : lt dk[x]! dk[a]!
                  · rw [hv] at hl
                    have HV := Lib.hid hv
                    clear hv
                    go_wp2_with (go_at_fn g; refine hl.mono ?_; rintro e w1 ⟨rfl, q, os, hw1⟩; have st1 := Lib.hid (show St enc k blk off w0 W dk w1 by rw [hw1]; exact HST.out.grow q os); have x1 := Lib.hid (HXB.out.only (show Only (fun b => b = blk) wr w1 by rw [hw1]; exact only_grow _ q os)); clear hw1)
                    go_roundg (m + 1 - i2)
                    case measure => have := HK.out; have := HM.out; omega
                    case rel => exact ⟨m, by first | rfl | rw [hxm], rfl, by have := HM.out; omega, by have := HM.out; omega, Lib.hid ⟨st1.out, x1.out, by rw [← HE.out]; exact (down_step _ _ _ _ _ HM.out hxl (by simp [HV.out])).symm⟩⟩
                  · rw [hv] at hl
                    have HV := Lib.hid hv
                    clear hv
                    go_wp2_with (go_at_fn g; refine hl.mono ?_; rintro e w1 ⟨rfl, q, os, hw1⟩; have st1 := Lib.hid (show St enc k blk off w0 W dk w1 by rw [hw1]; exact HST.out.grow q os); have x1 := Lib.hid (HXB.out.only (show Only (fun b => b = blk) wr w1 by rw [hw1]; exact only_grow _ q os)); clear hw1)
                    go_meet
                    case rel => exact ⟨by rw [← HE.out, down_stop2 _ _ _ _ (by simp [HV.out])], Lib.hid ⟨st1.out, x1.out⟩⟩
                · go_wp2_with fail
                  go_meet
                  case rel => exact ⟨by rw [← HE.out, down_stop1 _ _ _ _ hxl], Lib.hid ⟨HST.out, HXB.out⟩⟩
            case rest =>
              obtain ⟨h7, hCd⟩ := hcut
              obtain ⟨j2, hj2⟩ : ∃ j2, j2 = scanDown (fun x => !lt x dk[a]!) dk i2 j := ⟨_, rfl⟩
              rw [← hj2] at h7
              subst h7
              obtain ⟨hj21, hj22, -, hj24⟩ := scanDown_spec (fun x => !lt x dk[a]!) dk i2 j
              rw [← hj2] at hj21 hj22 hj24
              have hlt2 : i2 ≤ j2 → i2 < j2 := by
                intro h1
                rcases Nat.lt_or_ge i2 j2 with h2 | h2
                · exact h2
                · have h3 : i2 = j2 := Nat.le_antisymm h1 h2
                  have h4 := HU4.out (by omega)
                  have h5 := hj24 h1 (by omega)
                  rw [h3] at h4
                  revert h4 h5
                  cases lt dk[j2]! dk[a]! <;> simp
              clear hj24
              have hj23 := hj22 hij
              have HJ2 := Lib.hid hj2
              clear hj2 hj22 c0 c1
              obtain ⟨c0, c1, -, -⟩ := hCd.out.2
              by_cases hgt : i2 > j2
              · have hE := HE0.out
                rw [partLoop_eq, ← HI2.out, ← HJ2.out, if_pos hgt] at hE
                have HE := Lib.hid hE
                clear hE
                have hgz : (j2 : Int) < (i2 : Int) := by omega
                obtain ⟨W3, hsw, st3, on3⟩ := E.swp hCd.out.1 hds (i := j2) (j := a) (by omega) (by omega)
                have ST3 := Lib.hid st3
                clear st3 on3
                go_wp2_with fail
                go_ret2
                refine ⟨by rw [HP.out, ← HE.out]; rfl, by rw [HP.out, ← HE.out]; exact ST3.out⟩
              · have hE := HE0.out
                rw [partLoop_eq, ← HI2.out, ← HJ2.out, if_neg hgt] at hE
                have HE := Lib.hid hE
                clear hE
                have hgz : ¬ (j2 : Int) < (i2 : Int) := by omega
                obtain ⟨W3, hsw, st3, on3⟩ := E.swp hCd.out.1 hds (i := i2) (j := j2) (by omega) (by omega)
                have ST3 := Lib.hid (And.intro st3 (hCd.out.2.only on3))
                clear st3 on3
                go_wp2_with fail
                go_roundg (j2 - 1 + 1 - (i2 + 1))
                case measure => have := HK0.out; omega
                case rel => exact ⟨i2 + 1, j2 - 1, Sort.swp dk i2 j2, by simp, by congr 1; omega, rfl, by omega, by omega, by omega, by rw [swp_size]; exact hds, Lib.hid ⟨ST3.out.1, ST3.out.2, HE.out⟩⟩
end
end Go.Proofs.YtakhcfemakapbaaGreatDoor.SwI
