/-
  The document's test of a value. Conditions: as stated.
-/
import Derived.Test.YtgmnnpbbiejbnaaGreatVaM
import Derived.Test.YtgmnnpbbiejbnaaGreatMgC
set_option maxRecDepth 100000
set_option linter.unusedSimpArgs false
set_option linter.unusedVariables false
namespace Go.Proofs.YtgmnnpbbiejbnaaGreat.VaU
open Go.RowKit Go.Proofs.YtgmnnpbbiejbnaaGreat.Mem Go.Proofs.YtgmnnpbbiejbnaaGreat.VaA Go.Proofs.YtgmnnpbbiejbnaaGreat.VaB Go.Proofs.YtgmnnpbbiejbnaaGreat.VaC Go.Proofs.YtgmnnpbbiejbnaaGreat.VaE Go.Proofs.YtgmnnpbbiejbnaaGreat.VaF Go.Proofs.YtgmnnpbbiejbnaaGreat.VaG Go.Proofs.YtgmnnpbbiejbnaaGreat.VaH Go.Proofs.YtgmnnpbbiejbnaaGreat.VaJ Go.Proofs.YtgmnnpbbiejbnaaGreat.VaL Go.Proofs.YtgmnnpbbiejbnaaGreat.VaM

theorem box5 {w w' : World} {b : Nat} {a0 a1 a2 a3 a4 : Value} {T : TypeId} (h : w.heap[b]? = some (.cells #[a0, a1, a2, a3, a4] T (0, 0))) (hb : Below w.heap.size w w') :
    w'.heap[b]? = some (.cells #[a0, a1, a2, a3, a4] T (0, 0)) := (hb.block _ (Array.getElem?_eq_some_iff.1 h).1).trans h
theorem box5c {w : World} {b : Nat} {a0 a1 a2 a3 a4 : Value} {T : TypeId} (h : w.heap[b]? = some (.cells #[a0, a1, a2, a3, a4] T (0, 0))) :
    w.cell? ⟨b, 0, none⟩ = some a0 ∧ w.cell? ⟨b, 1, none⟩ = some a1 ∧ w.cell? ⟨b, 2, none⟩ = some a2 ∧ w.cell? ⟨b, 3, none⟩ = some a3 ∧ w.cell? ⟨b, 4, none⟩ = some a4 := by
  refine ⟨?_, ?_, ?_, ?_, ?_⟩ <;> simp [World.cell?, h]
theorem size0 {t : ByteArray} (h : t.toList = []) : t = ⟨#[]⟩ := by
  rw [ByteArray.toList_eq] at h; cases t; simp_all

set_option maxHeartbeats 2000000 in
theorem plainR_1a (t : ByteArray) (LA : Option Addr) (lc : Nat) (FA : Option Addr) (fc : Nat) (KA : Option Addr) (kc : Nat) (w : World) (hr : RdV w ⟨1, t, LA, 0, lc, [], FA, 0, fc, [], KA, 0, kc, []⟩) (ht : t.toList = []) (hT : (t.size : Int) ≤ 1048576) :
    Calls Tryz.prog 66 #[.agg #[.int .i64 1, .string t, .slice LA 0 lc, .slice FA 0 fc, .slice KA 0 kc]] w fun e w' => e = .returned (.int .i64 (chk ⟨1, t, LA, 0, lc, [], FA, 0, fc, [], KA, 0, kc, []⟩)) ∧ Below w.heap.size w w' := by
  have hemp : ∀ w', Calls Tryz.prog 92 #[.agg #[.int .i64 1, .string t, .slice LA 0 lc, .slice FA 0 fc, .slice KA 0 kc]] w' fun e w'' => e = .returned (.bool (emptyD ⟨1, t, LA, 0, lc, [], FA, 0, fc, [], KA, 0, kc, []⟩)) ∧ Below w'.heap.size w' w'' := fun w' => emptyR_calls ⟨1, t, LA, 0, lc, [], FA, 0, fc, [], KA, 0, kc, []⟩ w'
  have b0 : Below w.heap.size w (w.alloc (.cells #[.int .i64 1, .string t, .slice LA 0 lc, .slice FA 0 fc, .slice KA 0 kc] 42)) := (Below.refl _ w).alloc (Nat.le_refl _) _
  have p0 : (w.alloc (.cells #[.int .i64 1, .string t, .slice LA 0 lc, .slice FA 0 fc, .slice KA 0 kc] 42)).heap[w.heap.size]? = some (.cells #[.int .i64 1, .string t, .slice LA 0 lc, .slice FA 0 fc, .slice KA 0 kc] 42 (0, 0)) := heap_alloc_new w _
  rw [show emptyD ⟨1, t, LA, 0, lc, [], FA, 0, fc, [], KA, 0, kc, []⟩ = false by rfl] at hemp
  go_enter Tryz.func66, Tryz.ntmps66
  go_wp2_with fail
  refine (hemp _).mono ?_
  rintro e w1 ⟨rfl, b1⟩
  have B1 := b0.trans (b1.mono b0.size)
  have p1 := box5 p0 b1
  obtain ⟨c0, c1, c2, c3, c4⟩ := box5c p1
  have P1 := Lib.hid p1
  clear p0 p1 b0 b1 hemp
  have B2 := B1
  have P2 := P1
  go_wp2_with fail
  refine (fieldsR_calls FA 0 fc [] _ (hr.f.below B2)).mono ?_
  rintro e w3 ⟨rfl, nd3, hw3⟩
  rw [show okH [] = true from rfl]
  have b3 : Below w1.heap.size w1 w3 := by rw [hw3]; exact VaF.below_drawn_ (Below.refl _ _) _
  clear hw3 c0 c1 c2 c3 c4
  have B3 := B2.trans (b3.mono B2.size)
  have P3 := Lib.hid (box5 P2.out b3)
  clear b3
  obtain ⟨c0, c1, c2, c3, c4⟩ := box5c P3.out
  go_wp2_with fail
  refine (rankedR_calls KA 0 kc [] _ (hr.k.below B3) (by decide)).mono ?_
  rintro e w4 ⟨rfl, b4⟩
  rw [show okK [] = true from rfl]
  have B4 := B3.trans (b4.mono B3.size)
  have p4 := box5 P3.out b4
  clear c0 c1 c2 c3 c4 b4
  obtain ⟨c0, c1, c2, c3, c4⟩ := box5c p4
  clear p4
  go_wp2_with fail
  go_loop [3] (fun i => i = .int .i64 0) (fun _ => 0)
  case atStart => rfl
  case round =>
    subst hrel
    go_wp2_with fail
    go_ret
    refine ⟨?_, B4⟩
    rw [show chk ⟨1, t, LA, 0, lc, [], FA, 0, fc, [], KA, 0, kc, []⟩ = 0 by unfold chk isK strayV emptyV rightV shortB; simp; omega]; rfl
set_option maxHeartbeats 2000000 in
theorem plainR_1b (t : ByteArray) (LA : Option Addr) (lc : Nat) (FA : Option Addr) (fc : Nat) (KA : Option Addr) (kc : Nat) (w : World) (hr : RdV w ⟨1, t, LA, 0, lc, [], FA, 0, fc, [], KA, 0, kc, []⟩) (ht : ¬ t.toList = []) (hT : (t.size : Int) ≤ 1048576) :
    Calls Tryz.prog 66 #[.agg #[.int .i64 1, .string t, .slice LA 0 lc, .slice FA 0 fc, .slice KA 0 kc]] w fun e w' => e = .returned (.int .i64 (chk ⟨1, t, LA, 0, lc, [], FA, 0, fc, [], KA, 0, kc, []⟩)) ∧ Below w.heap.size w w' := by
  have hemp : ∀ w', Calls Tryz.prog 92 #[.agg #[.int .i64 1, .string t, .slice LA 0 lc, .slice FA 0 fc, .slice KA 0 kc]] w' fun e w'' => e = .returned (.bool (emptyD ⟨1, t, LA, 0, lc, [], FA, 0, fc, [], KA, 0, kc, []⟩)) ∧ Below w'.heap.size w' w'' := fun w' => emptyR_calls ⟨1, t, LA, 0, lc, [], FA, 0, fc, [], KA, 0, kc, []⟩ w'
  have b0 : Below w.heap.size w (w.alloc (.cells #[.int .i64 1, .string t, .slice LA 0 lc, .slice FA 0 fc, .slice KA 0 kc] 42)) := (Below.refl _ w).alloc (Nat.le_refl _) _
  have p0 : (w.alloc (.cells #[.int .i64 1, .string t, .slice LA 0 lc, .slice FA 0 fc, .slice KA 0 kc] 42)).heap[w.heap.size]? = some (.cells #[.int .i64 1, .string t, .slice LA 0 lc, .slice FA 0 fc, .slice KA 0 kc] 42 (0, 0)) := heap_alloc_new w _
  rw [show emptyD ⟨1, t, LA, 0, lc, [], FA, 0, fc, [], KA, 0, kc, []⟩ = false by rfl] at hemp
  go_enter Tryz.func66, Tryz.ntmps66
  go_wp2_with fail
  refine (hemp _).mono ?_
  rintro e w1 ⟨rfl, b1⟩
  have B1 := b0.trans (b1.mono b0.size)
  have p1 := box5 p0 b1
  obtain ⟨c0, c1, c2, c3, c4⟩ := box5c p1
  have P1 := Lib.hid p1
  clear p0 p1 b0 b1 hemp
  have B2 := B1
  have P2 := P1
  go_wp2_with fail
  refine (fieldsR_calls FA 0 fc [] _ (hr.f.below B2)).mono ?_
  rintro e w3 ⟨rfl, nd3, hw3⟩
  rw [show okH [] = true from rfl]
  have b3 : Below w1.heap.size w1 w3 := by rw [hw3]; exact VaF.below_drawn_ (Below.refl _ _) _
  clear hw3 c0 c1 c2 c3 c4
  have B3 := B2.trans (b3.mono B2.size)
  have P3 := Lib.hid (box5 P2.out b3)
  clear b3
  obtain ⟨c0, c1, c2, c3, c4⟩ := box5c P3.out
  go_wp2_with fail
  refine (rankedR_calls KA 0 kc [] _ (hr.k.below B3) (by decide)).mono ?_
  rintro e w4 ⟨rfl, b4⟩
  rw [show okK [] = true from rfl]
  have B4 := B3.trans (b4.mono B3.size)
  have p4 := box5 P3.out b4
  clear c0 c1 c2 c3 c4 b4
  obtain ⟨c0, c1, c2, c3, c4⟩ := box5c p4
  clear p4
  go_wp2_with fail
  go_loop [3] (fun i => i = .int .i64 0) (fun _ => 0)
  case atStart => rfl
  case round =>
    subst hrel
    go_wp2_with fail
    go_ret
    refine ⟨?_, B4⟩
    rw [show chk ⟨1, t, LA, 0, lc, [], FA, 0, fc, [], KA, 0, kc, []⟩ = 0 by unfold chk isK strayV emptyV rightV shortB; simp; omega]; rfl
set_option maxHeartbeats 2000000 in
theorem plainR_2 (t : ByteArray) (LA : Option Addr) (ln : Nat) (lc : Nat) (l : List ByteArray) (FA : Option Addr) (fc : Nat) (KA : Option Addr) (kc : Nat) (w : World) (hr : RdV w ⟨2, t, LA, ln, lc, l, FA, 0, fc, [], KA, 0, kc, []⟩) (ht : t.toList = []) :
    Calls Tryz.prog 66 #[.agg #[.int .i64 2, .string t, .slice LA ln lc, .slice FA 0 fc, .slice KA 0 kc]] w fun e w' => e = .returned (.int .i64 (chk ⟨2, t, LA, ln, lc, l, FA, 0, fc, [], KA, 0, kc, []⟩)) ∧ Below w.heap.size w w' := by
  obtain rfl := size0 ht
  clear ht
  have hemp : ∀ w', Calls Tryz.prog 92 #[.agg #[.int .i64 2, .string ⟨#[]⟩, .slice LA ln lc, .slice FA 0 fc, .slice KA 0 kc]] w' fun e w'' => e = .returned (.bool (emptyD ⟨2, ⟨#[]⟩, LA, ln, lc, l, FA, 0, fc, [], KA, 0, kc, []⟩)) ∧ Below w'.heap.size w' w'' := fun w' => emptyR_calls ⟨2, ⟨#[]⟩, LA, ln, lc, l, FA, 0, fc, [], KA, 0, kc, []⟩ w'
  have b0 : Below w.heap.size w (w.alloc (.cells #[.int .i64 2, .string ⟨#[]⟩, .slice LA ln lc, .slice FA 0 fc, .slice KA 0 kc] 42)) := (Below.refl _ w).alloc (Nat.le_refl _) _
  have p0 : (w.alloc (.cells #[.int .i64 2, .string ⟨#[]⟩, .slice LA ln lc, .slice FA 0 fc, .slice KA 0 kc] 42)).heap[w.heap.size]? = some (.cells #[.int .i64 2, .string ⟨#[]⟩, .slice LA ln lc, .slice FA 0 fc, .slice KA 0 kc] 42 (0, 0)) := heap_alloc_new w _
  rcases Nat.eq_zero_or_pos ln with h0 | h0
  · subst h0
    rw [show emptyD ⟨2, ⟨#[]⟩, LA, 0, lc, l, FA, 0, fc, [], KA, 0, kc, []⟩ = true by rfl] at hemp
    go_enter Tryz.func66, Tryz.ntmps66
    go_wp2_with fail
    refine (hemp _).mono ?_
    rintro e w1 ⟨rfl, b1⟩
    have B1 := b0.trans (b1.mono b0.size)
    have p1 := box5 p0 b1
    obtain ⟨c0, c1, c2, c3, c4⟩ := box5c p1
    have P1 := Lib.hid p1
    clear p0 p1 b0 b1 hemp
    go_wp2_with fail
    go_ret
    exact ⟨by rw [show chk ⟨2, ⟨#[]⟩, LA, 0, lc, l, FA, 0, fc, [], KA, 0, kc, []⟩ = 131 by unfold chk isK strayV emptyV; simp]; rfl, B1⟩
  have hne : decide (0 < ln) = true := by simp; omega
  have H0 := Lib.hid h0
  rw [show emptyD ⟨2, ⟨#[]⟩, LA, ln, lc, l, FA, 0, fc, [], KA, 0, kc, []⟩ = false by simp [emptyD, isK, emptyV]; omega] at hemp
  go_enter Tryz.func66, Tryz.ntmps66
  go_wp2_with fail
  refine (hemp _).mono ?_
  rintro e w1 ⟨rfl, b1⟩
  have B1 := b0.trans (b1.mono b0.size)
  have p1 := box5 p0 b1
  obtain ⟨c0, c1, c2, c3, c4⟩ := box5c p1
  have P1 := Lib.hid p1
  clear p0 p1 b0 b1 hemp
  clear h0
  have B2 := B1
  have P2 := P1
  go_wp2_with fail
  refine (fieldsR_calls FA 0 fc [] _ (hr.f.below B2)).mono ?_
  rintro e w3 ⟨rfl, nd3, hw3⟩
  rw [show okH [] = true from rfl]
  have b3 : Below w1.heap.size w1 w3 := by rw [hw3]; exact VaF.below_drawn_ (Below.refl _ _) _
  clear hw3 c0 c1 c2 c3 c4
  have B3 := B2.trans (b3.mono B2.size)
  have P3 := Lib.hid (box5 P2.out b3)
  clear b3
  obtain ⟨c0, c1, c2, c3, c4⟩ := box5c P3.out
  go_wp2_with fail
  refine (rankedR_calls KA 0 kc [] _ (hr.k.below B3) (by decide)).mono ?_
  rintro e w4 ⟨rfl, b4⟩
  rw [show okK [] = true from rfl]
  have B4 := B3.trans (b4.mono B3.size)
  have p4 := box5 P3.out b4
  clear c0 c1 c2 c3 c4 b4
  obtain ⟨c0, c1, c2, c3, c4⟩ := box5c p4
  clear p4
  go_wp2_with fail
  have R4 : RdS w4 LA ln lc l := hr.l.below B4
  have hcap : ln ≤ lc := R4.cap
  have hbig : lc ≤ 9223372036854775807 := R4.big
  have HL : Hid (l.length = ln) := Lib.hid (rds_len hr.l)
  go_loopw [3] (fun i wr => ∃ j : Nat, j ≤ ln ∧ i = .int .i64 j ∧ (l.take j).all shortB = true ∧ ∃ nd, wr = w4.drewN nd) (fun i _ => ln - (intOf i).toNat)
  case atStart => exact ⟨0, Nat.zero_le _, rfl, rfl, 0, rfl⟩
  case round =>
    obtain ⟨j, hj, rfl, hin, nd5, rfl⟩ := hrel
    have Hin := Lib.hid hin
    clear hin
    by_cases hlt : j < ln
    · obtain ⟨s, hs⟩ : ∃ s, l[j]? = some s := ⟨_, List.getElem?_eq_getElem (by have : l.length = ln := HL.out; omega)⟩
      obtain ⟨p, rfl, cp⟩ := rds_get R4 hs
      have Hs := Lib.hid hs
      clear hs
      cases h1 : shortB s
      · have hd1 := short_no h1
        have H1 := Lib.hid h1
        clear h1
        go_wp2_with fail
        go_ret
        refine ⟨?_, VaF.below_drawn_ B4 _⟩
        rw [show chk ⟨2, ⟨#[]⟩, some p, ln, lc, l, FA, 0, fc, [], KA, 0, kc, []⟩ = 131 by unfold chk isK strayV emptyV rightV; simp [not_all Hs.out H1.out]]; rfl
      · have hd1 := short_yes h1
        have H1 := Lib.hid h1
        clear h1
        go_wp2_with fail
        exact ⟨⟨j + 1, by omega, by go_num, take_all Hs.out Hin.out H1.out, nd5, by first | rfl | exact drew2 _ _ _⟩, by simp [intOf]; omega⟩
    · obtain rfl : j = ln := by omega
      have hall : l.all shortB = true := by have h := Hin.out; rwa [List.take_of_length_le (by have : l.length = j := HL.out; omega)] at h
      have HA := Lib.hid hall
      clear hall
      go_wp2_with fail
      go_ret
      refine ⟨?_, VaF.below_drawn_ B4 _⟩
      rw [show chk ⟨2, ⟨#[]⟩, LA, j, lc, l, FA, 0, fc, [], KA, 0, kc, []⟩ = 0 by unfold chk isK strayV emptyV rightV; simp [HA.out, show j ≠ 0 by have := H0.out; omega]]; rfl
set_option maxHeartbeats 2000000 in
theorem plainR_3 (t : ByteArray) (LA : Option Addr) (lc : Nat) (FA : Option Addr) (fn : Nat) (fc : Nat) (f : List (ByteArray × ByteArray)) (KA : Option Addr) (kc : Nat) (w : World) (hr : RdV w ⟨3, t, LA, 0, lc, [], FA, fn, fc, f, KA, 0, kc, []⟩) (ht : t.toList = []) :
    Calls Tryz.prog 66 #[.agg #[.int .i64 3, .string t, .slice LA 0 lc, .slice FA fn fc, .slice KA 0 kc]] w fun e w' => e = .returned (.int .i64 (chk ⟨3, t, LA, 0, lc, [], FA, fn, fc, f, KA, 0, kc, []⟩)) ∧ Below w.heap.size w w' := by
  obtain rfl := size0 ht
  clear ht
  have hemp : ∀ w', Calls Tryz.prog 92 #[.agg #[.int .i64 3, .string ⟨#[]⟩, .slice LA 0 lc, .slice FA fn fc, .slice KA 0 kc]] w' fun e w'' => e = .returned (.bool (emptyD ⟨3, ⟨#[]⟩, LA, 0, lc, [], FA, fn, fc, f, KA, 0, kc, []⟩)) ∧ Below w'.heap.size w' w'' := fun w' => emptyR_calls ⟨3, ⟨#[]⟩, LA, 0, lc, [], FA, fn, fc, f, KA, 0, kc, []⟩ w'
  have b0 : Below w.heap.size w (w.alloc (.cells #[.int .i64 3, .string ⟨#[]⟩, .slice LA 0 lc, .slice FA fn fc, .slice KA 0 kc] 42)) := (Below.refl _ w).alloc (Nat.le_refl _) _
  have p0 : (w.alloc (.cells #[.int .i64 3, .string ⟨#[]⟩, .slice LA 0 lc, .slice FA fn fc, .slice KA 0 kc] 42)).heap[w.heap.size]? = some (.cells #[.int .i64 3, .string ⟨#[]⟩, .slice LA 0 lc, .slice FA fn fc, .slice KA 0 kc] 42 (0, 0)) := heap_alloc_new w _
  rcases Nat.eq_zero_or_pos fn with h0 | h0
  · subst h0
    rw [show emptyD ⟨3, ⟨#[]⟩, LA, 0, lc, [], FA, 0, fc, f, KA, 0, kc, []⟩ = true by rfl] at hemp
    go_enter Tryz.func66, Tryz.ntmps66
    go_wp2_with fail
    refine (hemp _).mono ?_
    rintro e w1 ⟨rfl, b1⟩
    have B1 := b0.trans (b1.mono b0.size)
    have p1 := box5 p0 b1
    obtain ⟨c0, c1, c2, c3, c4⟩ := box5c p1
    have P1 := Lib.hid p1
    clear p0 p1 b0 b1 hemp
    go_wp2_with fail
    go_ret
    exact ⟨by rw [show chk ⟨3, ⟨#[]⟩, LA, 0, lc, [], FA, 0, fc, f, KA, 0, kc, []⟩ = 131 by unfold chk isK strayV emptyV; simp]; rfl, B1⟩
  have hne : decide (0 < fn) = true := by simp; omega
  have H0 := Lib.hid h0
  rw [show emptyD ⟨3, ⟨#[]⟩, LA, 0, lc, [], FA, fn, fc, f, KA, 0, kc, []⟩ = false by simp [emptyD, isK, emptyV]; omega] at hemp
  go_enter Tryz.func66, Tryz.ntmps66
  go_wp2_with fail
  refine (hemp _).mono ?_
  rintro e w1 ⟨rfl, b1⟩
  have B1 := b0.trans (b1.mono b0.size)
  have p1 := box5 p0 b1
  obtain ⟨c0, c1, c2, c3, c4⟩ := box5c p1
  have P1 := Lib.hid p1
  clear p0 p1 b0 b1 hemp
  clear h0
  have B2 := B1
  have P2 := P1
  cases hv : okH f
  · have HV := Lib.hid hv
    go_wp2_with fail
    refine (fieldsR_calls FA fn fc f _ (hr.f.below B2)).mono ?_
    rintro e w3 ⟨rfl, nd3, rfl⟩
    rw [hv]
    go_wp2_with fail
    go_ret
    refine ⟨?_, VaF.below_drawn_ B2 _⟩
    rw [show chk ⟨3, ⟨#[]⟩, LA, 0, lc, [], FA, fn, fc, f, KA, 0, kc, []⟩ = 131 by unfold chk isK strayV emptyV rightV; simp [HV.out]]; rfl
  have HV := Lib.hid hv
  go_wp2_with fail
  refine (fieldsR_calls FA fn fc f _ (hr.f.below B2)).mono ?_
  rintro e w3 ⟨rfl, nd3, hw3⟩
  rw [hv]
  clear hv
  have b3 : Below w1.heap.size w1 w3 := by rw [hw3]; exact VaF.below_drawn_ (Below.refl _ _) _
  clear hw3 c0 c1 c2 c3 c4
  have B3 := B2.trans (b3.mono B2.size)
  have P3 := Lib.hid (box5 P2.out b3)
  clear b3
  obtain ⟨c0, c1, c2, c3, c4⟩ := box5c P3.out
  go_wp2_with fail
  refine (rankedR_calls KA 0 kc [] _ (hr.k.below B3) (by decide)).mono ?_
  rintro e w4 ⟨rfl, b4⟩
  rw [show okK [] = true from rfl]
  have B4 := B3.trans (b4.mono B3.size)
  have p4 := box5 P3.out b4
  clear c0 c1 c2 c3 c4 b4
  obtain ⟨c0, c1, c2, c3, c4⟩ := box5c p4
  clear p4
  go_wp2_with fail
  go_loop [3] (fun i => i = .int .i64 0) (fun _ => 0)
  case atStart => rfl
  case round =>
    subst hrel
    go_wp2_with fail
    go_ret
    refine ⟨?_, B4⟩
    rw [show chk ⟨3, ⟨#[]⟩, LA, 0, lc, [], FA, fn, fc, f, KA, 0, kc, []⟩ = 0 by unfold chk isK strayV emptyV rightV; simp [HV.out, show fn ≠ 0 by have := H0.out; omega]]; rfl
set_option maxHeartbeats 2000000 in
theorem plainR_4 (t : ByteArray) (LA : Option Addr) (ln : Nat) (lc : Nat) (l : List ByteArray) (FA : Option Addr) (fc : Nat) (KA : Option Addr) (kc : Nat) (w : World) (hr : RdV w ⟨4, t, LA, ln, lc, l, FA, 0, fc, [], KA, 0, kc, []⟩) (ht : t.toList = []) :
    Calls Tryz.prog 66 #[.agg #[.int .i64 4, .string t, .slice LA ln lc, .slice FA 0 fc, .slice KA 0 kc]] w fun e w' => e = .returned (.int .i64 (chk ⟨4, t, LA, ln, lc, l, FA, 0, fc, [], KA, 0, kc, []⟩)) ∧ Below w.heap.size w w' := by
  obtain rfl := size0 ht
  clear ht
  have hemp : ∀ w', Calls Tryz.prog 92 #[.agg #[.int .i64 4, .string ⟨#[]⟩, .slice LA ln lc, .slice FA 0 fc, .slice KA 0 kc]] w' fun e w'' => e = .returned (.bool (emptyD ⟨4, ⟨#[]⟩, LA, ln, lc, l, FA, 0, fc, [], KA, 0, kc, []⟩)) ∧ Below w'.heap.size w' w'' := fun w' => emptyR_calls ⟨4, ⟨#[]⟩, LA, ln, lc, l, FA, 0, fc, [], KA, 0, kc, []⟩ w'
  have b0 : Below w.heap.size w (w.alloc (.cells #[.int .i64 4, .string ⟨#[]⟩, .slice LA ln lc, .slice FA 0 fc, .slice KA 0 kc] 42)) := (Below.refl _ w).alloc (Nat.le_refl _) _
  have p0 : (w.alloc (.cells #[.int .i64 4, .string ⟨#[]⟩, .slice LA ln lc, .slice FA 0 fc, .slice KA 0 kc] 42)).heap[w.heap.size]? = some (.cells #[.int .i64 4, .string ⟨#[]⟩, .slice LA ln lc, .slice FA 0 fc, .slice KA 0 kc] 42 (0, 0)) := heap_alloc_new w _
  rcases Nat.eq_zero_or_pos ln with h0 | h0
  · subst h0
    rw [show emptyD ⟨4, ⟨#[]⟩, LA, 0, lc, l, FA, 0, fc, [], KA, 0, kc, []⟩ = true by rfl] at hemp
    go_enter Tryz.func66, Tryz.ntmps66
    go_wp2_with fail
    refine (hemp _).mono ?_
    rintro e w1 ⟨rfl, b1⟩
    have B1 := b0.trans (b1.mono b0.size)
    have p1 := box5 p0 b1
    obtain ⟨c0, c1, c2, c3, c4⟩ := box5c p1
    have P1 := Lib.hid p1
    clear p0 p1 b0 b1 hemp
    go_wp2_with fail
    go_ret
    exact ⟨by rw [show chk ⟨4, ⟨#[]⟩, LA, 0, lc, l, FA, 0, fc, [], KA, 0, kc, []⟩ = 131 by unfold chk isK strayV emptyV; simp]; rfl, B1⟩
  have hne : decide (0 < ln) = true := by simp; omega
  have H0 := Lib.hid h0
  rw [show emptyD ⟨4, ⟨#[]⟩, LA, ln, lc, l, FA, 0, fc, [], KA, 0, kc, []⟩ = false by simp [emptyD, isK, emptyV]; omega] at hemp
  go_enter Tryz.func66, Tryz.ntmps66
  go_wp2_with fail
  refine (hemp _).mono ?_
  rintro e w1 ⟨rfl, b1⟩
  have B1 := b0.trans (b1.mono b0.size)
  have p1 := box5 p0 b1
  obtain ⟨c0, c1, c2, c3, c4⟩ := box5c p1
  have P1 := Lib.hid p1
  clear p0 p1 b0 b1 hemp
  clear h0
  cases hv : ris ltS l
  · have HV := Lib.hid hv
    go_wp2_with fail
    refine (validR_calls LA ln lc l _ (hr.l.below B1)).mono ?_
    rintro e w2 ⟨rfl, nd, rfl⟩
    rw [hv]
    go_wp2_with fail
    go_ret
    refine ⟨?_, VaF.below_drawn_ B1 _⟩
    rw [show chk ⟨4, ⟨#[]⟩, LA, ln, lc, l, FA, 0, fc, [], KA, 0, kc, []⟩ = 131 by unfold chk isK strayV emptyV rightV; simp [HV.out]]; rfl
  have HV := Lib.hid hv
  go_wp2_with fail
  refine (validR_calls LA ln lc l _ (hr.l.below B1)).mono ?_
  rintro e w2 ⟨rfl, nd, hw2⟩
  rw [hv]
  have b2 : Below w1.heap.size w1 w2 := by rw [hw2]; exact VaF.below_drawn_ (Below.refl _ _) _
  clear hv hw2 c0 c1 c2 c3 c4
  have B2 := B1.trans (b2.mono B1.size)
  have P2 := Lib.hid (box5 P1.out b2)
  clear b2
  obtain ⟨c0, c1, c2, c3, c4⟩ := box5c P2.out
  go_wp2_with fail
  refine (fieldsR_calls FA 0 fc [] _ (hr.f.below B2)).mono ?_
  rintro e w3 ⟨rfl, nd3, hw3⟩
  rw [show okH [] = true from rfl]
  have b3 : Below w2.heap.size w2 w3 := by rw [hw3]; exact VaF.below_drawn_ (Below.refl _ _) _
  clear hw3 c0 c1 c2 c3 c4
  have B3 := B2.trans (b3.mono B2.size)
  have P3 := Lib.hid (box5 P2.out b3)
  clear b3
  obtain ⟨c0, c1, c2, c3, c4⟩ := box5c P3.out
  go_wp2_with fail
  refine (rankedR_calls KA 0 kc [] _ (hr.k.below B3) (by decide)).mono ?_
  rintro e w4 ⟨rfl, b4⟩
  rw [show okK [] = true from rfl]
  have B4 := B3.trans (b4.mono B3.size)
  have p4 := box5 P3.out b4
  clear c0 c1 c2 c3 c4 b4
  obtain ⟨c0, c1, c2, c3, c4⟩ := box5c p4
  clear p4
  go_wp2_with fail
  have R4 : RdS w4 LA ln lc l := hr.l.below B4
  have hcap : ln ≤ lc := R4.cap
  have hbig : lc ≤ 9223372036854775807 := R4.big
  have HL : Hid (l.length = ln) := Lib.hid (rds_len hr.l)
  go_loopw [3] (fun i wr => ∃ j : Nat, j ≤ ln ∧ i = .int .i64 j ∧ (l.take j).all shortB = true ∧ ∃ nd, wr = w4.drewN nd) (fun i _ => ln - (intOf i).toNat)
  case atStart => exact ⟨0, Nat.zero_le _, rfl, rfl, 0, rfl⟩
  case round =>
    obtain ⟨j, hj, rfl, hin, nd5, rfl⟩ := hrel
    have Hin := Lib.hid hin
    clear hin
    by_cases hlt : j < ln
    · obtain ⟨s, hs⟩ : ∃ s, l[j]? = some s := ⟨_, List.getElem?_eq_getElem (by have : l.length = ln := HL.out; omega)⟩
      obtain ⟨p, rfl, cp⟩ := rds_get R4 hs
      have Hs := Lib.hid hs
      clear hs
      cases h1 : shortB s
      · have hd1 := short_no h1
        have H1 := Lib.hid h1
        clear h1
        go_wp2_with fail
        go_ret
        refine ⟨?_, VaF.below_drawn_ B4 _⟩
        rw [show chk ⟨4, ⟨#[]⟩, some p, ln, lc, l, FA, 0, fc, [], KA, 0, kc, []⟩ = 131 by unfold chk isK strayV emptyV rightV; simp [HV.out, not_all Hs.out H1.out]]; rfl
      · have hd1 := short_yes h1
        have H1 := Lib.hid h1
        clear h1
        go_wp2_with fail
        exact ⟨⟨j + 1, by omega, by go_num, take_all Hs.out Hin.out H1.out, nd5, by first | rfl | exact drew2 _ _ _⟩, by simp [intOf]; omega⟩
    · obtain rfl : j = ln := by omega
      have hall : l.all shortB = true := by have h := Hin.out; rwa [List.take_of_length_le (by have : l.length = j := HL.out; omega)] at h
      have HA := Lib.hid hall
      clear hall
      go_wp2_with fail
      go_ret
      refine ⟨?_, VaF.below_drawn_ B4 _⟩
      rw [show chk ⟨4, ⟨#[]⟩, LA, j, lc, l, FA, 0, fc, [], KA, 0, kc, []⟩ = 0 by unfold chk isK strayV emptyV rightV; simp [HV.out, HA.out, show j ≠ 0 by have := H0.out; omega]]; rfl
set_option maxHeartbeats 2000000 in
theorem plainR_5 (t : ByteArray) (LA : Option Addr) (lc : Nat) (FA : Option Addr) (fc : Nat) (KA : Option Addr) (kn : Nat) (kc : Nat) (r : List (ByteArray × Int)) (w : World) (hr : RdV w ⟨5, t, LA, 0, lc, [], FA, 0, fc, [], KA, kn, kc, r⟩) (ht : t.toList = []) (hkn : kn ≤ 100000000) :
    Calls Tryz.prog 66 #[.agg #[.int .i64 5, .string t, .slice LA 0 lc, .slice FA 0 fc, .slice KA kn kc]] w fun e w' => e = .returned (.int .i64 (chk ⟨5, t, LA, 0, lc, [], FA, 0, fc, [], KA, kn, kc, r⟩)) ∧ Below w.heap.size w w' := by
  obtain rfl := size0 ht
  clear ht
  have hemp : ∀ w', Calls Tryz.prog 92 #[.agg #[.int .i64 5, .string ⟨#[]⟩, .slice LA 0 lc, .slice FA 0 fc, .slice KA kn kc]] w' fun e w'' => e = .returned (.bool (emptyD ⟨5, ⟨#[]⟩, LA, 0, lc, [], FA, 0, fc, [], KA, kn, kc, r⟩)) ∧ Below w'.heap.size w' w'' := fun w' => emptyR_calls ⟨5, ⟨#[]⟩, LA, 0, lc, [], FA, 0, fc, [], KA, kn, kc, r⟩ w'
  have b0 : Below w.heap.size w (w.alloc (.cells #[.int .i64 5, .string ⟨#[]⟩, .slice LA 0 lc, .slice FA 0 fc, .slice KA kn kc] 42)) := (Below.refl _ w).alloc (Nat.le_refl _) _
  have p0 : (w.alloc (.cells #[.int .i64 5, .string ⟨#[]⟩, .slice LA 0 lc, .slice FA 0 fc, .slice KA kn kc] 42)).heap[w.heap.size]? = some (.cells #[.int .i64 5, .string ⟨#[]⟩, .slice LA 0 lc, .slice FA 0 fc, .slice KA kn kc] 42 (0, 0)) := heap_alloc_new w _
  rcases Nat.eq_zero_or_pos kn with h0 | h0
  · subst h0
    rw [show emptyD ⟨5, ⟨#[]⟩, LA, 0, lc, [], FA, 0, fc, [], KA, 0, kc, r⟩ = true by rfl] at hemp
    go_enter Tryz.func66, Tryz.ntmps66
    go_wp2_with fail
    refine (hemp _).mono ?_
    rintro e w1 ⟨rfl, b1⟩
    have B1 := b0.trans (b1.mono b0.size)
    have p1 := box5 p0 b1
    obtain ⟨c0, c1, c2, c3, c4⟩ := box5c p1
    have P1 := Lib.hid p1
    clear p0 p1 b0 b1 hemp
    go_wp2_with fail
    go_ret
    exact ⟨by rw [show chk ⟨5, ⟨#[]⟩, LA, 0, lc, [], FA, 0, fc, [], KA, 0, kc, r⟩ = 131 by unfold chk isK strayV emptyV; simp]; rfl, B1⟩
  have hne : decide (0 < kn) = true := by simp; omega
  have H0 := Lib.hid h0
  rw [show emptyD ⟨5, ⟨#[]⟩, LA, 0, lc, [], FA, 0, fc, [], KA, kn, kc, r⟩ = false by simp [emptyD, isK, emptyV]; omega] at hemp
  go_enter Tryz.func66, Tryz.ntmps66
  go_wp2_with fail
  refine (hemp _).mono ?_
  rintro e w1 ⟨rfl, b1⟩
  have B1 := b0.trans (b1.mono b0.size)
  have p1 := box5 p0 b1
  obtain ⟨c0, c1, c2, c3, c4⟩ := box5c p1
  have P1 := Lib.hid p1
  clear p0 p1 b0 b1 hemp
  clear h0
  have B2 := B1
  have P2 := P1
  go_wp2_with fail
  refine (fieldsR_calls FA 0 fc [] _ (hr.f.below B2)).mono ?_
  rintro e w3 ⟨rfl, nd3, hw3⟩
  rw [show okH [] = true from rfl]
  have b3 : Below w1.heap.size w1 w3 := by rw [hw3]; exact VaF.below_drawn_ (Below.refl _ _) _
  clear hw3 c0 c1 c2 c3 c4
  have B3 := B2.trans (b3.mono B2.size)
  have P3 := Lib.hid (box5 P2.out b3)
  clear b3
  obtain ⟨c0, c1, c2, c3, c4⟩ := box5c P3.out
  cases hv : okK r
  · have HV := Lib.hid hv
    go_wp2_with fail
    refine (rankedR_calls KA kn kc r _ (hr.k.below B3) hkn).mono ?_
    rintro e w4 ⟨rfl, b4⟩
    rw [hv]
    go_wp2_with fail
    go_ret
    refine ⟨?_, B3.trans (b4.mono B3.size)⟩
    rw [show chk ⟨5, ⟨#[]⟩, LA, 0, lc, [], FA, 0, fc, [], KA, kn, kc, r⟩ = 131 by unfold chk isK strayV emptyV rightV; simp [HV.out]]; rfl
  have HV := Lib.hid hv
  go_wp2_with fail
  refine (rankedR_calls KA kn kc r _ (hr.k.below B3) hkn).mono ?_
  rintro e w4 ⟨rfl, b4⟩
  rw [hv]
  clear hv
  have B4 := B3.trans (b4.mono B3.size)
  have p4 := box5 P3.out b4
  clear c0 c1 c2 c3 c4 b4
  obtain ⟨c0, c1, c2, c3, c4⟩ := box5c p4
  clear p4
  go_wp2_with fail
  go_loop [3] (fun i => i = .int .i64 0) (fun _ => 0)
  case atStart => rfl
  case round =>
    subst hrel
    go_wp2_with fail
    go_ret
    refine ⟨?_, B4⟩
    rw [show chk ⟨5, ⟨#[]⟩, LA, 0, lc, [], FA, 0, fc, [], KA, kn, kc, r⟩ = 0 by unfold chk isK strayV emptyV rightV; simp [HV.out, show kn ≠ 0 by have := H0.out; omega]]; rfl

theorem chk_stray {x : VV} (h1 : isK x = true) (h2 : strayV x = true) : chk x = 131 := by unfold chk; rw [h1, h2]; rfl

set_option maxHeartbeats 2000000 in
theorem wholeR_1 (t : ByteArray) (LA : Option Addr) (ln lc : Nat) (l : List ByteArray) (FA : Option Addr) (fn fc : Nat) (f : List (ByteArray × ByteArray)) (KA : Option Addr) (kn kc : Nat) (r : List (ByteArray × Int)) (w : World) (hr : RdV w ⟨1, t, LA, ln, lc, l, FA, fn, fc, f, KA, kn, kc, r⟩) (hkn : kn ≤ 100000000) :
    Calls Tryz.prog 66 #[.agg #[.int .i64 1, .string t, .slice LA ln lc, .slice FA fn fc, .slice KA kn kc]] w fun e w' => e = .returned (.int .i64 (chk ⟨1, t, LA, ln, lc, l, FA, fn, fc, f, KA, kn, kc, r⟩)) ∧ Below w.heap.size w w' := by
  have b0 := (Below.refl _ w).alloc (Nat.le_refl _) (.cells #[.int .i64 1, .string t, .slice LA ln lc, .slice FA fn fc, .slice KA kn kc] 42)
  by_cases hT : (t.size : Int) ≤ 1048576
  rotate_left
  · have hd : (1048576 : Int) < (t.size : Int) := by omega
    have hsh : shortB t = false := by unfold shortB; simp; omega
    have HC : Hid (chk ⟨1, t, LA, ln, lc, l, FA, fn, fc, f, KA, kn, kc, r⟩ = 131) := Lib.hid (by unfold chk isK strayV emptyV rightV; simp [hsh])
    clear hr
    go_enter Tryz.func66, Tryz.ntmps66
    go_wp2_with fail
    all_goals (go_ret; exact ⟨by rw [HC.out]; rfl, b0⟩)
  rcases Nat.eq_zero_or_pos ln with h0 | h0
  rotate_left
  · have hd : decide (0 < ln) = true := by simp; omega
    have HC : Hid (chk ⟨1, t, LA, ln, lc, l, FA, fn, fc, f, KA, kn, kc, r⟩ = 131) := Lib.hid (chk_stray rfl (by unfold strayV; simp [hd]))
    clear hr
    go_enter Tryz.func66, Tryz.ntmps66
    go_wp2_with fail
    all_goals (go_ret; exact ⟨by rw [HC.out]; rfl, b0⟩)
  subst h0
  rcases Nat.eq_zero_or_pos fn with h0 | h0
  rotate_left
  · have hd : decide (0 < fn) = true := by simp; omega
    have HC : Hid (chk ⟨1, t, LA, 0, lc, l, FA, fn, fc, f, KA, kn, kc, r⟩ = 131) := Lib.hid (chk_stray rfl (by unfold strayV; simp [hd]))
    clear hr
    go_enter Tryz.func66, Tryz.ntmps66
    go_wp2_with fail
    all_goals (go_ret; exact ⟨by rw [HC.out]; rfl, b0⟩)
  subst h0
  rcases Nat.eq_zero_or_pos kn with h0 | h0
  rotate_left
  · have hd : decide (0 < kn) = true := by simp; omega
    have HC : Hid (chk ⟨1, t, LA, 0, lc, l, FA, 0, fc, f, KA, kn, kc, r⟩ = 131) := Lib.hid (chk_stray rfl (by unfold strayV; simp [hd]))
    clear hr
    go_enter Tryz.func66, Tryz.ntmps66
    go_wp2_with fail
    all_goals (go_ret; exact ⟨by rw [HC.out]; rfl, b0⟩)
  subst h0
  obtain rfl : l = [] := List.eq_nil_of_length_eq_zero (rds_len hr.l)
  obtain rfl : f = [] := List.eq_nil_of_length_eq_zero (rdf_len hr.f)
  obtain rfl : r = [] := List.eq_nil_of_length_eq_zero (rdk_len hr.k)
  by_cases ht : t.toList = []
  · exact plainR_1a t LA lc FA fc KA kc w hr ht hT
  · exact plainR_1b t LA lc FA fc KA kc w hr ht hT
set_option maxHeartbeats 2000000 in
theorem wholeR_2 (t : ByteArray) (LA : Option Addr) (ln lc : Nat) (l : List ByteArray) (FA : Option Addr) (fn fc : Nat) (f : List (ByteArray × ByteArray)) (KA : Option Addr) (kn kc : Nat) (r : List (ByteArray × Int)) (w : World) (hr : RdV w ⟨2, t, LA, ln, lc, l, FA, fn, fc, f, KA, kn, kc, r⟩) (hkn : kn ≤ 100000000) :
    Calls Tryz.prog 66 #[.agg #[.int .i64 2, .string t, .slice LA ln lc, .slice FA fn fc, .slice KA kn kc]] w fun e w' => e = .returned (.int .i64 (chk ⟨2, t, LA, ln, lc, l, FA, fn, fc, f, KA, kn, kc, r⟩)) ∧ Below w.heap.size w w' := by
  have b0 := (Below.refl _ w).alloc (Nat.le_refl _) (.cells #[.int .i64 2, .string t, .slice LA ln lc, .slice FA fn fc, .slice KA kn kc] 42)
  by_cases ht : t.toList = []
  rotate_left
  · have HS : Hid (strayV ⟨2, t, LA, ln, lc, l, FA, fn, fc, f, KA, kn, kc, r⟩ = true) := Lib.hid (by unfold strayV; simp [ht])
    by_cases hT : (t.size : Int) ≤ 1048576
    · have HC : Hid (chk ⟨2, t, LA, ln, lc, l, FA, fn, fc, f, KA, kn, kc, r⟩ = 131) := Lib.hid (chk_stray rfl HS.out)
      clear hr
      go_enter Tryz.func66, Tryz.ntmps66
      go_wp2_with fail
      all_goals (go_ret; exact ⟨by rw [HC.out]; rfl, b0⟩)
    · have hd : (1048576 : Int) < (t.size : Int) := by omega
      have HC : Hid (chk ⟨2, t, LA, ln, lc, l, FA, fn, fc, f, KA, kn, kc, r⟩ = 131) := Lib.hid (chk_stray rfl HS.out)
      clear hr
      go_enter Tryz.func66, Tryz.ntmps66
      go_wp2_with fail
      all_goals (go_ret; exact ⟨by rw [HC.out]; rfl, b0⟩)
  have HT := Lib.hid ht
  have hT : (t.size : Int) ≤ 1048576 := by rw [size0 ht]; decide
  rcases Nat.eq_zero_or_pos fn with h0 | h0
  rotate_left
  · have hd : decide (0 < fn) = true := by simp; omega
    have HC : Hid (chk ⟨2, t, LA, ln, lc, l, FA, fn, fc, f, KA, kn, kc, r⟩ = 131) := Lib.hid (chk_stray rfl (by unfold strayV; simp [hd]))
    clear hr
    go_enter Tryz.func66, Tryz.ntmps66
    go_wp2_with fail
    all_goals (go_ret; exact ⟨by rw [HC.out]; rfl, b0⟩)
  subst h0
  rcases Nat.eq_zero_or_pos kn with h0 | h0
  rotate_left
  · have hd : decide (0 < kn) = true := by simp; omega
    have HC : Hid (chk ⟨2, t, LA, ln, lc, l, FA, 0, fc, f, KA, kn, kc, r⟩ = 131) := Lib.hid (chk_stray rfl (by unfold strayV; simp [hd]))
    clear hr
    go_enter Tryz.func66, Tryz.ntmps66
    go_wp2_with fail
    all_goals (go_ret; exact ⟨by rw [HC.out]; rfl, b0⟩)
  subst h0
  obtain rfl : f = [] := List.eq_nil_of_length_eq_zero (rdf_len hr.f)
  obtain rfl : r = [] := List.eq_nil_of_length_eq_zero (rdk_len hr.k)
  exact plainR_2 t LA ln lc l FA fc KA kc w hr ht
set_option maxHeartbeats 2000000 in
theorem wholeR_3 (t : ByteArray) (LA : Option Addr) (ln lc : Nat) (l : List ByteArray) (FA : Option Addr) (fn fc : Nat) (f : List (ByteArray × ByteArray)) (KA : Option Addr) (kn kc : Nat) (r : List (ByteArray × Int)) (w : World) (hr : RdV w ⟨3, t, LA, ln, lc, l, FA, fn, fc, f, KA, kn, kc, r⟩) (hkn : kn ≤ 100000000) :
    Calls Tryz.prog 66 #[.agg #[.int .i64 3, .string t, .slice LA ln lc, .slice FA fn fc, .slice KA kn kc]] w fun e w' => e = .returned (.int .i64 (chk ⟨3, t, LA, ln, lc, l, FA, fn, fc, f, KA, kn, kc, r⟩)) ∧ Below w.heap.size w w' := by
  have b0 := (Below.refl _ w).alloc (Nat.le_refl _) (.cells #[.int .i64 3, .string t, .slice LA ln lc, .slice FA fn fc, .slice KA kn kc] 42)
  by_cases ht : t.toList = []
  rotate_left
  · have HS : Hid (strayV ⟨3, t, LA, ln, lc, l, FA, fn, fc, f, KA, kn, kc, r⟩ = true) := Lib.hid (by unfold strayV; simp [ht])
    by_cases hT : (t.size : Int) ≤ 1048576
    · have HC : Hid (chk ⟨3, t, LA, ln, lc, l, FA, fn, fc, f, KA, kn, kc, r⟩ = 131) := Lib.hid (chk_stray rfl HS.out)
      clear hr
      go_enter Tryz.func66, Tryz.ntmps66
      go_wp2_with fail
      all_goals (go_ret; exact ⟨by rw [HC.out]; rfl, b0⟩)
    · have hd : (1048576 : Int) < (t.size : Int) := by omega
      have HC : Hid (chk ⟨3, t, LA, ln, lc, l, FA, fn, fc, f, KA, kn, kc, r⟩ = 131) := Lib.hid (chk_stray rfl HS.out)
      clear hr
      go_enter Tryz.func66, Tryz.ntmps66
      go_wp2_with fail
      all_goals (go_ret; exact ⟨by rw [HC.out]; rfl, b0⟩)
  have HT := Lib.hid ht
  have hT : (t.size : Int) ≤ 1048576 := by rw [size0 ht]; decide
  rcases Nat.eq_zero_or_pos ln with h0 | h0
  rotate_left
  · have hd : decide (0 < ln) = true := by simp; omega
    have HC : Hid (chk ⟨3, t, LA, ln, lc, l, FA, fn, fc, f, KA, kn, kc, r⟩ = 131) := Lib.hid (chk_stray rfl (by unfold strayV; simp [hd]))
    clear hr
    go_enter Tryz.func66, Tryz.ntmps66
    go_wp2_with fail
    all_goals (go_ret; exact ⟨by rw [HC.out]; rfl, b0⟩)
  subst h0
  rcases Nat.eq_zero_or_pos kn with h0 | h0
  rotate_left
  · have hd : decide (0 < kn) = true := by simp; omega
    have HC : Hid (chk ⟨3, t, LA, 0, lc, l, FA, fn, fc, f, KA, kn, kc, r⟩ = 131) := Lib.hid (chk_stray rfl (by unfold strayV; simp [hd]))
    clear hr
    go_enter Tryz.func66, Tryz.ntmps66
    go_wp2_with fail
    all_goals (go_ret; exact ⟨by rw [HC.out]; rfl, b0⟩)
  subst h0
  obtain rfl : l = [] := List.eq_nil_of_length_eq_zero (rds_len hr.l)
  obtain rfl : r = [] := List.eq_nil_of_length_eq_zero (rdk_len hr.k)
  exact plainR_3 t LA lc FA fn fc f KA kc w hr ht
set_option maxHeartbeats 2000000 in
theorem wholeR_4 (t : ByteArray) (LA : Option Addr) (ln lc : Nat) (l : List ByteArray) (FA : Option Addr) (fn fc : Nat) (f : List (ByteArray × ByteArray)) (KA : Option Addr) (kn kc : Nat) (r : List (ByteArray × Int)) (w : World) (hr : RdV w ⟨4, t, LA, ln, lc, l, FA, fn, fc, f, KA, kn, kc, r⟩) (hkn : kn ≤ 100000000) :
    Calls Tryz.prog 66 #[.agg #[.int .i64 4, .string t, .slice LA ln lc, .slice FA fn fc, .slice KA kn kc]] w fun e w' => e = .returned (.int .i64 (chk ⟨4, t, LA, ln, lc, l, FA, fn, fc, f, KA, kn, kc, r⟩)) ∧ Below w.heap.size w w' := by
  have b0 := (Below.refl _ w).alloc (Nat.le_refl _) (.cells #[.int .i64 4, .string t, .slice LA ln lc, .slice FA fn fc, .slice KA kn kc] 42)
  by_cases ht : t.toList = []
  rotate_left
  · have HS : Hid (strayV ⟨4, t, LA, ln, lc, l, FA, fn, fc, f, KA, kn, kc, r⟩ = true) := Lib.hid (by unfold strayV; simp [ht])
    by_cases hT : (t.size : Int) ≤ 1048576
    · have HC : Hid (chk ⟨4, t, LA, ln, lc, l, FA, fn, fc, f, KA, kn, kc, r⟩ = 131) := Lib.hid (chk_stray rfl HS.out)
      clear hr
      go_enter Tryz.func66, Tryz.ntmps66
      go_wp2_with fail
      all_goals (go_ret; exact ⟨by rw [HC.out]; rfl, b0⟩)
    · have hd : (1048576 : Int) < (t.size : Int) := by omega
      have HC : Hid (chk ⟨4, t, LA, ln, lc, l, FA, fn, fc, f, KA, kn, kc, r⟩ = 131) := Lib.hid (chk_stray rfl HS.out)
      clear hr
      go_enter Tryz.func66, Tryz.ntmps66
      go_wp2_with fail
      all_goals (go_ret; exact ⟨by rw [HC.out]; rfl, b0⟩)
  have HT := Lib.hid ht
  have hT : (t.size : Int) ≤ 1048576 := by rw [size0 ht]; decide
  rcases Nat.eq_zero_or_pos fn with h0 | h0
  rotate_left
  · have hd : decide (0 < fn) = true := by simp; omega
    have HC : Hid (chk ⟨4, t, LA, ln, lc, l, FA, fn, fc, f, KA, kn, kc, r⟩ = 131) := Lib.hid (chk_stray rfl (by unfold strayV; simp [hd]))
    clear hr
    go_enter Tryz.func66, Tryz.ntmps66
    go_wp2_with fail
    all_goals (go_ret; exact ⟨by rw [HC.out]; rfl, b0⟩)
  subst h0
  rcases Nat.eq_zero_or_pos kn with h0 | h0
  rotate_left
  · have hd : decide (0 < kn) = true := by simp; omega
    have HC : Hid (chk ⟨4, t, LA, ln, lc, l, FA, 0, fc, f, KA, kn, kc, r⟩ = 131) := Lib.hid (chk_stray rfl (by unfold strayV; simp [hd]))
    clear hr
    go_enter Tryz.func66, Tryz.ntmps66
    go_wp2_with fail
    all_goals (go_ret; exact ⟨by rw [HC.out]; rfl, b0⟩)
  subst h0
  obtain rfl : f = [] := List.eq_nil_of_length_eq_zero (rdf_len hr.f)
  obtain rfl : r = [] := List.eq_nil_of_length_eq_zero (rdk_len hr.k)
  exact plainR_4 t LA ln lc l FA fc KA kc w hr ht
set_option maxHeartbeats 2000000 in
theorem wholeR_5 (t : ByteArray) (LA : Option Addr) (ln lc : Nat) (l : List ByteArray) (FA : Option Addr) (fn fc : Nat) (f : List (ByteArray × ByteArray)) (KA : Option Addr) (kn kc : Nat) (r : List (ByteArray × Int)) (w : World) (hr : RdV w ⟨5, t, LA, ln, lc, l, FA, fn, fc, f, KA, kn, kc, r⟩) (hkn : kn ≤ 100000000) :
    Calls Tryz.prog 66 #[.agg #[.int .i64 5, .string t, .slice LA ln lc, .slice FA fn fc, .slice KA kn kc]] w fun e w' => e = .returned (.int .i64 (chk ⟨5, t, LA, ln, lc, l, FA, fn, fc, f, KA, kn, kc, r⟩)) ∧ Below w.heap.size w w' := by
  have b0 := (Below.refl _ w).alloc (Nat.le_refl _) (.cells #[.int .i64 5, .string t, .slice LA ln lc, .slice FA fn fc, .slice KA kn kc] 42)
  by_cases ht : t.toList = []
  rotate_left
  · have HS : Hid (strayV ⟨5, t, LA, ln, lc, l, FA, fn, fc, f, KA, kn, kc, r⟩ = true) := Lib.hid (by unfold strayV; simp [ht])
    by_cases hT : (t.size : Int) ≤ 1048576
    · have HC : Hid (chk ⟨5, t, LA, ln, lc, l, FA, fn, fc, f, KA, kn, kc, r⟩ = 131) := Lib.hid (chk_stray rfl HS.out)
      clear hr
      go_enter Tryz.func66, Tryz.ntmps66
      go_wp2_with fail
      all_goals (go_ret; exact ⟨by rw [HC.out]; rfl, b0⟩)
    · have hd : (1048576 : Int) < (t.size : Int) := by omega
      have HC : Hid (chk ⟨5, t, LA, ln, lc, l, FA, fn, fc, f, KA, kn, kc, r⟩ = 131) := Lib.hid (chk_stray rfl HS.out)
      clear hr
      go_enter Tryz.func66, Tryz.ntmps66
      go_wp2_with fail
      all_goals (go_ret; exact ⟨by rw [HC.out]; rfl, b0⟩)
  have HT := Lib.hid ht
  have hT : (t.size : Int) ≤ 1048576 := by rw [size0 ht]; decide
  rcases Nat.eq_zero_or_pos ln with h0 | h0
  rotate_left
  · have hd : decide (0 < ln) = true := by simp; omega
    have HC : Hid (chk ⟨5, t, LA, ln, lc, l, FA, fn, fc, f, KA, kn, kc, r⟩ = 131) := Lib.hid (chk_stray rfl (by unfold strayV; simp [hd]))
    clear hr
    go_enter Tryz.func66, Tryz.ntmps66
    go_wp2_with fail
    all_goals (go_ret; exact ⟨by rw [HC.out]; rfl, b0⟩)
  subst h0
  rcases Nat.eq_zero_or_pos fn with h0 | h0
  rotate_left
  · have hd : decide (0 < fn) = true := by simp; omega
    have HC : Hid (chk ⟨5, t, LA, 0, lc, l, FA, fn, fc, f, KA, kn, kc, r⟩ = 131) := Lib.hid (chk_stray rfl (by unfold strayV; simp [hd]))
    clear hr
    go_enter Tryz.func66, Tryz.ntmps66
    go_wp2_with fail
    all_goals (go_ret; exact ⟨by rw [HC.out]; rfl, b0⟩)
  subst h0
  obtain rfl : l = [] := List.eq_nil_of_length_eq_zero (rds_len hr.l)
  obtain rfl : f = [] := List.eq_nil_of_length_eq_zero (rdf_len hr.f)
  exact plainR_5 t LA lc FA fc KA kn kc r w hr ht hkn

set_option maxHeartbeats 2000000 in
theorem checkR_calls (x : VV) (w : World) (hr : RdV w x) (hkn : x.kn ≤ 100000000) :
    Calls Tryz.prog 66 #[x.val] w fun e w' => e = .returned (.int .i64 (chk x)) ∧ Below w.heap.size w w' := by
  obtain ⟨k, t, LA, ln, lc, l, FA, fn, fc, f, KA, kn, kc, r⟩ := x
  by_cases h1 : k = 1
  · subst h1; exact wholeR_1 t LA ln lc l FA fn fc f KA kn kc r w hr hkn
  by_cases h2 : k = 2
  · subst h2; exact wholeR_2 t LA ln lc l FA fn fc f KA kn kc r w hr hkn
  by_cases h3 : k = 3
  · subst h3; exact wholeR_3 t LA ln lc l FA fn fc f KA kn kc r w hr hkn
  by_cases h4 : k = 4
  · subst h4; exact wholeR_4 t LA ln lc l FA fn fc f KA kn kc r w hr hkn
  by_cases h5 : k = 5
  · subst h5; exact wholeR_5 t LA ln lc l FA fn fc f KA kn kc r w hr hkn
  have b0 := (Below.refl _ w).alloc (Nat.le_refl _) (.cells #[.int .i64 k, .string t, .slice LA ln lc, .slice FA fn fc, .slice KA kn kc] 42)
  have HC : Hid (chk ⟨k, t, LA, ln, lc, l, FA, fn, fc, f, KA, kn, kc, r⟩ = 130) := Lib.hid (by unfold chk isK; simp [h1, h2, h3, h4, h5])
  show Calls _ _ #[.agg #[.int .i64 k, .string t, .slice LA ln lc, .slice FA fn fc, .slice KA kn kc]] _ _
  clear hr
  by_cases hlo : k < 1
  · clear h1 h2 h3 h4 h5
    go_enter Tryz.func66, Tryz.ntmps66
    go_wp2_with fail
    go_ret
    exact ⟨by rw [HC.out]; rfl, b0⟩
  · have hhi : 5 < k := by omega
    clear h1 h2 h3 h4 h5
    go_enter Tryz.func66, Tryz.ntmps66
    go_wp2_with fail
    go_ret
    exact ⟨by rw [HC.out]; rfl, b0⟩

end Go.Proofs.YtgmnnpbbiejbnaaGreat.VaU
