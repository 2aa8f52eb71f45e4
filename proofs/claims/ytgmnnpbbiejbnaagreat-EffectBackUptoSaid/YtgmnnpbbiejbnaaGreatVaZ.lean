/-
  The document's bytes of a value. Conditions: as stated.
-/
import Derived.Test.YtgmnnpbbiejbnaaGreatVaU
import Derived.Test.YtgmnnpbbiejbnaaGreatMgE
import Derived.Deep.RegionHeld3
import Derived.Sort.AtCall
set_option maxRecDepth 100000
set_option linter.unusedSimpArgs false
set_option linter.unusedVariables false
namespace Go.Proofs.YtgmnnpbbiejbnaaGreat.VaZ
open Go.RowKit Go.Proofs.YtgmnnpbbiejbnaaGreat.Mem Go.Proofs.YtgmnnpbbiejbnaaGreat.VaA Go.Proofs.YtgmnnpbbiejbnaaGreat.VaB Go.Proofs.YtgmnnpbbiejbnaaGreat.VaC Go.Proofs.YtgmnnpbbiejbnaaGreat.VaE Go.Proofs.YtgmnnpbbiejbnaaGreat.VaH Go.Proofs.YtgmnnpbbiejbnaaGreat.VaI Go.Proofs.YtgmnnpbbiejbnaaGreat.VaU Go.Proofs.YtgmnnpbbiejbnaaGreat.VaW Go.Proofs.YtgmnnpbbiejbnaaGreat.VaD

abbrev Se (w1 : World) (q0 q1 q2 : Addr) (u0 u1 u2 : Value) (w' : World) : Prop := Below w1.heap.size w1 w' ∧ w'.cell? q0 = some u0 ∧ w'.cell? q1 = some u1 ∧ w'.cell? q2 = some u2
theorem se_mk {w1 w' : World} {q0 q1 q2 : Addr} {u0 u1 u2 : Value} (h : Se w1 q0 q1 q2 u0 u1 u2 w1) (hb : Below w1.heap.size w1 w') : Se w1 q0 q1 q2 u0 u1 u2 w' :=
  ⟨hb, VaM.cell_b h.2.1 hb, VaM.cell_b h.2.2.1 hb, VaM.cell_b h.2.2.2 hb⟩
theorem enc_of {x : VV} (h : chk x = 0) : encV x = kindB x :: bodyV x := by unfold encV; rw [if_pos h]
theorem enc_no {x : VV} (h : ¬ chk x = 0) : encV x = [] := by unfold encV; rw [if_neg h]

set_option maxHeartbeats 4000000 in
theorem encR_1 (t : ByteArray) (LA : Option Addr) (ln lc : Nat) (l : List ByteArray) (FA : Option Addr) (fn fc : Nat) (f : List (ByteArray × ByteArray)) (KA : Option Addr) (kn kc : Nat) (r : List (ByteArray × Int)) (w : World) (hr : RdV w ⟨1, t, LA, ln, lc, l, FA, fn, fc, f, KA, kn, kc, r⟩) (hs : Sm ⟨1, t, LA, ln, lc, l, FA, fn, fc, f, KA, kn, kc, r⟩) (hc : chk ⟨1, t, LA, ln, lc, l, FA, fn, fc, f, KA, kn, kc, r⟩ = 0) :
    Calls Tryz.prog 58 #[.agg #[.int .i64 1, .string t, .slice LA ln lc, .slice FA fn fc, .slice KA kn kc]] w fun e w' => e = .returned (.tuple #[.string ⟨(encV ⟨1, t, LA, ln, lc, l, FA, fn, fc, f, KA, kn, kc, r⟩).toArray⟩, .int .i64 0]) ∧ Below w.heap.size w w' := by
  have hck : ∀ w', RdV w' ⟨1, t, LA, ln, lc, l, FA, fn, fc, f, KA, kn, kc, r⟩ → Calls Tryz.prog 66 #[.agg #[.int .i64 1, .string t, .slice LA ln lc, .slice FA fn fc, .slice KA kn kc]] w' fun e w'' => e = .returned (.int .i64 (chk ⟨1, t, LA, ln, lc, l, FA, fn, fc, f, KA, kn, kc, r⟩)) ∧ Below w'.heap.size w' w'' := fun w' h => checkR_calls ⟨1, t, LA, ln, lc, l, FA, fn, fc, f, KA, kn, kc, r⟩ w' h hs.kn
  rw [hc] at hck
  have HE : Hid (encV ⟨1, t, LA, ln, lc, l, FA, fn, fc, f, KA, kn, kc, r⟩ = 1 :: (putL t)) := Lib.hid (by rw [enc_of hc]; rfl)
  have b0 : Below w.heap.size w (w.alloc (.cells #[.int .i64 1, .string t, .slice LA ln lc, .slice FA fn fc, .slice KA kn kc] 42)) := (Below.refl _ w).alloc (Nat.le_refl _) _
  have p0 : (w.alloc (.cells #[.int .i64 1, .string t, .slice LA ln lc, .slice FA fn fc, .slice KA kn kc] 42)).heap[w.heap.size]? = some (.cells #[.int .i64 1, .string t, .slice LA ln lc, .slice FA fn fc, .slice KA kn kc] 42 (0, 0)) := heap_alloc_new w _
  clear hc
  go_enter Tryz.func58, Tryz.ntmps58
  go_wp2_with fail
  refine (hck _ ⟨hr.l.below b0, hr.f.below b0, hr.k.below b0⟩).mono ?_
  rintro e w1 ⟨rfl, b1⟩
  have B1 := b0.trans (b1.mono b0.size)
  have p1 := box5 p0 b1
  have hx1 : w.heap.size < w1.heap.size := (Array.getElem?_eq_some_iff.1 p1).1
  obtain ⟨c0, c1, c2, c3, c4⟩ := box5c p1
  have P1 := Lib.hid p1
  clear p0 p1 b0 b1 hck
  have o1 := own_one w1 1
  have b2 : Below w1.heap.size w1 (w1.alloc (.cells #[.int .u8 1] 5)) := (Below.refl _ w1).alloc (Nat.le_refl _) _
  go_wp2_with fail
  refine (text_calls w1.heap.size _ [1] t _ o1 b2.size hs.t (by decide)).mono ?_
  rintro e w3 ⟨v3, rfl, o3, b3⟩
  have b13 := b2.trans (b3.below b2.size)
  have hcv := Base.convert_own (P := Tryz.prog) (dst := 9) elY.ht Tryz.underlying5 Tryz.underlying9 o3
  go_wp2_with fail
  go_ret2
  exact ⟨by rw [HE.out]; rfl, B1.trans (b13.mono B1.size)⟩
set_option maxHeartbeats 4000000 in
theorem encR_2 (t : ByteArray) (LA : Option Addr) (ln lc : Nat) (l : List ByteArray) (FA : Option Addr) (fn fc : Nat) (f : List (ByteArray × ByteArray)) (KA : Option Addr) (kn kc : Nat) (r : List (ByteArray × Int)) (w : World) (hr : RdV w ⟨2, t, LA, ln, lc, l, FA, fn, fc, f, KA, kn, kc, r⟩) (hs : Sm ⟨2, t, LA, ln, lc, l, FA, fn, fc, f, KA, kn, kc, r⟩) (hc : chk ⟨2, t, LA, ln, lc, l, FA, fn, fc, f, KA, kn, kc, r⟩ = 0) :
    Calls Tryz.prog 58 #[.agg #[.int .i64 2, .string t, .slice LA ln lc, .slice FA fn fc, .slice KA kn kc]] w fun e w' => e = .returned (.tuple #[.string ⟨(encV ⟨2, t, LA, ln, lc, l, FA, fn, fc, f, KA, kn, kc, r⟩).toArray⟩, .int .i64 0]) ∧ Below w.heap.size w w' := by
  have hck : ∀ w', RdV w' ⟨2, t, LA, ln, lc, l, FA, fn, fc, f, KA, kn, kc, r⟩ → Calls Tryz.prog 66 #[.agg #[.int .i64 2, .string t, .slice LA ln lc, .slice FA fn fc, .slice KA kn kc]] w' fun e w'' => e = .returned (.int .i64 (chk ⟨2, t, LA, ln, lc, l, FA, fn, fc, f, KA, kn, kc, r⟩)) ∧ Below w'.heap.size w' w'' := fun w' h => checkR_calls ⟨2, t, LA, ln, lc, l, FA, fn, fc, f, KA, kn, kc, r⟩ w' h hs.kn
  rw [hc] at hck
  have HE : Hid (encV ⟨2, t, LA, ln, lc, l, FA, fn, fc, f, KA, kn, kc, r⟩ = 2 :: (le ln 4 ++ encS l)) := Lib.hid (by rw [enc_of hc]; rfl)
  have b0 : Below w.heap.size w (w.alloc (.cells #[.int .i64 2, .string t, .slice LA ln lc, .slice FA fn fc, .slice KA kn kc] 42)) := (Below.refl _ w).alloc (Nat.le_refl _) _
  have p0 : (w.alloc (.cells #[.int .i64 2, .string t, .slice LA ln lc, .slice FA fn fc, .slice KA kn kc] 42)).heap[w.heap.size]? = some (.cells #[.int .i64 2, .string t, .slice LA ln lc, .slice FA fn fc, .slice KA kn kc] 42 (0, 0)) := heap_alloc_new w _
  clear hc
  go_enter Tryz.func58, Tryz.ntmps58
  go_wp2_with fail
  refine (hck _ ⟨hr.l.below b0, hr.f.below b0, hr.k.below b0⟩).mono ?_
  rintro e w1 ⟨rfl, b1⟩
  have B1 := b0.trans (b1.mono b0.size)
  have p1 := box5 p0 b1
  have hx1 : w.heap.size < w1.heap.size := (Array.getElem?_eq_some_iff.1 p1).1
  obtain ⟨c0, c1, c2, c3, c4⟩ := box5c p1
  have P1 := Lib.hid p1
  clear p0 p1 b0 b1 hck
  have o1 := own_one w1 2
  have b2 : Below w1.heap.size w1 (w1.alloc (.cells #[.int .u8 2] 5)) := (Below.refl _ w1).alloc (Nat.le_refl _) _
  go_wp2_with fail
  refine (four_calls w1.heap.size _ [2] ln _ o1 b2.size hs.ln (by decide)).mono ?_
  rintro e w3 ⟨v3, rfl, o3, b3⟩
  have b13 := b2.trans (b3.below b2.size)
  have R1 : RdS w1 LA ln lc l := hr.l.below B1
  have HL : Hid (l.length = ln) := Lib.hid (rds_len R1)
  have hcap : ln ≤ lc := R1.cap
  have hbig : lc ≤ 9223372036854775807 := R1.big
  have hn1 := hs.ln
  have hE : (encS l).length ≤ 100000000 := hs.s
  dsimp only at hn1
  clear b3 o1 b2 c0 c1 c2 c3 c4 hr
  obtain ⟨c0, c1, c2, c3, c4⟩ := box5c (box5 P1.out b13)
  go_wp2_with fail
  go_loopw [5, 6] (fun u i wr => ∃ k : Nat, k ≤ ln ∧ i = .int .i64 k ∧ OwnY wr w1.heap.size u ([2] ++ (le ln 4 ++ encS (l.take k))) ∧ Below w1.heap.size w1 wr) (fun _ i _ => ln - (intOf i).toNat)
  case atStart => exact ⟨0, Nat.zero_le _, rfl, by simpa [encS] using o3, b13⟩
  case round =>
    clear c0 c1 c2 c3 c4 b13 o3
    obtain ⟨k, hk, rfl, ok, bk⟩ := hrel
    obtain ⟨c0, c1, c2, c3, c4⟩ := box5c (box5 P1.out bk)
    by_cases hlt : k < ln
    · obtain ⟨s, hs1⟩ : ∃ s, l[k]? = some s := ⟨_, List.getElem?_eq_getElem (by have : l.length = ln := HL.out; omega)⟩
      obtain ⟨p, rfl, cp⟩ := rds_get (R1.below bk) hs1
      have hle := flat_le putL l (k + 1)
      have hle' : (encS (l.take (k + 1))).length ≤ (encS l).length := hle
      rw [encS_take hs1, List.length_append, putL_len] at hle'
      have hsz : s.size ≤ 100000000 := by omega
      have hlen : ([2] ++ (le ln 4 ++ encS (l.take k))).length ≤ 10000000000 := by simp only [List.length_append, le_len, List.length_cons, List.length_nil]; omega
      have Hs := Lib.hid hs1
      clear hs1 hle hle'
      go_wp2_with fail
      refine (text_calls w1.heap.size _ _ s _ ok bk.size hsz hlen).mono ?_
      rintro e w4 ⟨v4, rfl, o4, b4⟩
      have b14 := bk.trans (b4.below bk.size)
      go_wp2_with fail
      refine ⟨⟨k + 1, by omega, by go_num, ?_, b14⟩, by simp [intOf]; omega⟩
      rw [encS_take Hs.out]
      simpa [List.append_assoc] using o4
    · obtain rfl : k = ln := by omega
      rw [List.take_of_length_le (by have : l.length = k := HL.out; omega)] at ok
      have hcv := Base.convert_own (P := Tryz.prog) (dst := 9) elY.ht Tryz.underlying5 Tryz.underlying9 ok
      go_wp2_with fail
      go_ret2
      exact ⟨by rw [HE.out]; rfl, B1.trans (bk.mono B1.size)⟩
set_option maxHeartbeats 4000000 in
theorem encR_3 (t : ByteArray) (LA : Option Addr) (ln lc : Nat) (l : List ByteArray) (FA : Option Addr) (fn fc : Nat) (f : List (ByteArray × ByteArray)) (KA : Option Addr) (kn kc : Nat) (r : List (ByteArray × Int)) (w : World) (hr : RdV w ⟨3, t, LA, ln, lc, l, FA, fn, fc, f, KA, kn, kc, r⟩) (hs : Sm ⟨3, t, LA, ln, lc, l, FA, fn, fc, f, KA, kn, kc, r⟩) (hc : chk ⟨3, t, LA, ln, lc, l, FA, fn, fc, f, KA, kn, kc, r⟩ = 0) :
    Calls Tryz.prog 58 #[.agg #[.int .i64 3, .string t, .slice LA ln lc, .slice FA fn fc, .slice KA kn kc]] w fun e w' => e = .returned (.tuple #[.string ⟨(encV ⟨3, t, LA, ln, lc, l, FA, fn, fc, f, KA, kn, kc, r⟩).toArray⟩, .int .i64 0]) ∧ Below w.heap.size w w' := by
  have hck : ∀ w', RdV w' ⟨3, t, LA, ln, lc, l, FA, fn, fc, f, KA, kn, kc, r⟩ → Calls Tryz.prog 66 #[.agg #[.int .i64 3, .string t, .slice LA ln lc, .slice FA fn fc, .slice KA kn kc]] w' fun e w'' => e = .returned (.int .i64 (chk ⟨3, t, LA, ln, lc, l, FA, fn, fc, f, KA, kn, kc, r⟩)) ∧ Below w'.heap.size w' w'' := fun w' h => checkR_calls ⟨3, t, LA, ln, lc, l, FA, fn, fc, f, KA, kn, kc, r⟩ w' h hs.kn
  rw [hc] at hck
  have HE : Hid (encV ⟨3, t, LA, ln, lc, l, FA, fn, fc, f, KA, kn, kc, r⟩ = 3 :: (le fn 4 ++ encF f)) := Lib.hid (by rw [enc_of hc]; rfl)
  have b0 : Below w.heap.size w (w.alloc (.cells #[.int .i64 3, .string t, .slice LA ln lc, .slice FA fn fc, .slice KA kn kc] 42)) := (Below.refl _ w).alloc (Nat.le_refl _) _
  have p0 : (w.alloc (.cells #[.int .i64 3, .string t, .slice LA ln lc, .slice FA fn fc, .slice KA kn kc] 42)).heap[w.heap.size]? = some (.cells #[.int .i64 3, .string t, .slice LA ln lc, .slice FA fn fc, .slice KA kn kc] 42 (0, 0)) := heap_alloc_new w _
  clear hc
  go_enter Tryz.func58, Tryz.ntmps58
  go_wp2_with fail
  refine (hck _ ⟨hr.l.below b0, hr.f.below b0, hr.k.below b0⟩).mono ?_
  rintro e w1 ⟨rfl, b1⟩
  have B1 := b0.trans (b1.mono b0.size)
  have p1 := box5 p0 b1
  have hx1 : w.heap.size < w1.heap.size := (Array.getElem?_eq_some_iff.1 p1).1
  obtain ⟨c0, c1, c2, c3, c4⟩ := box5c p1
  have P1 := Lib.hid p1
  clear p0 p1 b0 b1 hck
  have o1 := own_one w1 3
  have b2 : Below w1.heap.size w1 (w1.alloc (.cells #[.int .u8 3] 5)) := (Below.refl _ w1).alloc (Nat.le_refl _) _
  go_wp2_with fail
  refine (four_calls w1.heap.size _ [3] fn _ o1 b2.size hs.fn (by decide)).mono ?_
  rintro e w3 ⟨v3, rfl, o3, b3⟩
  have b13 := b2.trans (b3.below b2.size)
  have R1 : RdF w1 FA fn fc f := hr.f.below B1
  have HL : Hid (f.length = fn) := Lib.hid (rdf_len R1)
  have hcap : fn ≤ fc := R1.cap
  have hbig : fc ≤ 9223372036854775807 := R1.big
  have hn1 := hs.fn
  have hE : (encF f).length ≤ 100000000 := hs.f
  dsimp only at hn1
  clear b3 o1 b2 c0 c1 c2 c3 c4 hr
  obtain ⟨c0, c1, c2, c3, c4⟩ := box5c (box5 P1.out b13)
  go_wp2_with fail
  go_loopw [5, 7] (fun u i wr => ∃ k : Nat, k ≤ fn ∧ i = .int .i64 k ∧ OwnY wr w1.heap.size u ([3] ++ (le fn 4 ++ encF (f.take k))) ∧ Below w1.heap.size w1 wr) (fun _ i _ => fn - (intOf i).toNat)
  case atStart => exact ⟨0, Nat.zero_le _, rfl, by simpa [encF] using o3, b13⟩
  case round =>
    clear c0 c1 c2 c3 c4 b13 o3
    obtain ⟨k, hk, rfl, ok, bk⟩ := hrel
    obtain ⟨c0, c1, c2, c3, c4⟩ := box5c (box5 P1.out bk)
    by_cases hlt : k < fn
    · obtain ⟨s, hs1⟩ : ∃ s, f[k]? = some s := ⟨_, List.getElem?_eq_getElem (by have : f.length = fn := HL.out; omega)⟩
      obtain ⟨p, rfl, cp0, cp1⟩ := rdf_get R1 hs1
      have SE : Se w1 ⟨w.heap.size, 3, none⟩ (p.add (k * 2)) ⟨(p.add (k * 2)).block, (p.add (k * 2)).off + 1, none⟩ (.slice (some p) fn fc) (.string s.1) (.string s.2) w1 := ⟨Below.refl _ _, (box5c P1.out).2.2.2.1, cp0, cp1⟩
      have hle := flat_le (fun f : ByteArray × ByteArray => putL f.1 ++ putL f.2) f (k + 1)
      have hle' : (encF (f.take (k + 1))).length ≤ (encF f).length := hle
      rw [encF_take hs1, List.length_append, List.length_append, putL_len, putL_len] at hle'
      have hsz : s.1.size ≤ 100000000 ∧ s.2.size ≤ 100000000 := by omega
      have hlen : ([3] ++ (le fn 4 ++ encF (f.take k))).length ≤ 10000000000 := by simp only [List.length_append, le_len, List.length_cons, List.length_nil]; omega
      have hlen2 : ([3] ++ (le fn 4 ++ encF (f.take k)) ++ putL s.1).length ≤ 10000000000 := by simp only [List.length_append, le_len, putL_len, List.length_cons, List.length_nil]; omega
      have Hs := Lib.hid hs1
      clear hs1 hle hle' cp0 cp1 c0 c1 c2 c3 c4
      obtain ⟨-, c3, -, -⟩ := se_mk SE bk
      have okd := ok.drew
      have bkd := bk.drew
      go_wp2_with fail
      go_region_held3 (fun w' => Se w1 ⟨w.heap.size, 3, none⟩ (p.add (k * 2)) ⟨(p.add (k * 2)).block, (p.add (k * 2)).off + 1, none⟩ (.slice (some p) fn fc) (.string s.1) (.string s.2) w')
        (first | exact se_mk SE (by assumption))
        (first
          | (go_at_call_has 83 (s.1); refine (text_calls w1.heap.size _ _ s.1 _ okd bkd.size hsz.1 hlen).mono ?_; rintro e w4 ⟨v4, rfl, o4, b4⟩; have B4 := bkd.trans (b4.below bkd.size))
          | (go_at_call_has 83 (s.2); refine (text_calls w1.heap.size _ _ s.2 _ o4 B4.size hsz.2 hlen2).mono ?_; rintro e w5 ⟨v5, rfl, o5, b5⟩; have B5 := B4.trans (b5.below B4.size)))
      all_goals (
        go_wp2_with fail
        refine ⟨⟨k + 1, by omega, by go_num, ?_, B5⟩, by simp [intOf]; omega⟩
        rw [encF_take Hs.out]
        simpa [List.append_assoc] using o5)
    · obtain rfl : k = fn := by omega
      rw [List.take_of_length_le (by have : f.length = k := HL.out; omega)] at ok
      have hcv := Base.convert_own (P := Tryz.prog) (dst := 9) elY.ht Tryz.underlying5 Tryz.underlying9 ok
      go_wp2_with fail
      go_ret2
      exact ⟨by rw [HE.out]; rfl, B1.trans (bk.mono B1.size)⟩
set_option maxHeartbeats 4000000 in
theorem encR_4 (t : ByteArray) (LA : Option Addr) (ln lc : Nat) (l : List ByteArray) (FA : Option Addr) (fn fc : Nat) (f : List (ByteArray × ByteArray)) (KA : Option Addr) (kn kc : Nat) (r : List (ByteArray × Int)) (w : World) (hr : RdV w ⟨4, t, LA, ln, lc, l, FA, fn, fc, f, KA, kn, kc, r⟩) (hs : Sm ⟨4, t, LA, ln, lc, l, FA, fn, fc, f, KA, kn, kc, r⟩) (hc : chk ⟨4, t, LA, ln, lc, l, FA, fn, fc, f, KA, kn, kc, r⟩ = 0) :
    Calls Tryz.prog 58 #[.agg #[.int .i64 4, .string t, .slice LA ln lc, .slice FA fn fc, .slice KA kn kc]] w fun e w' => e = .returned (.tuple #[.string ⟨(encV ⟨4, t, LA, ln, lc, l, FA, fn, fc, f, KA, kn, kc, r⟩).toArray⟩, .int .i64 0]) ∧ Below w.heap.size w w' := by
  have hck : ∀ w', RdV w' ⟨4, t, LA, ln, lc, l, FA, fn, fc, f, KA, kn, kc, r⟩ → Calls Tryz.prog 66 #[.agg #[.int .i64 4, .string t, .slice LA ln lc, .slice FA fn fc, .slice KA kn kc]] w' fun e w'' => e = .returned (.int .i64 (chk ⟨4, t, LA, ln, lc, l, FA, fn, fc, f, KA, kn, kc, r⟩)) ∧ Below w'.heap.size w' w'' := fun w' h => checkR_calls ⟨4, t, LA, ln, lc, l, FA, fn, fc, f, KA, kn, kc, r⟩ w' h hs.kn
  rw [hc] at hck
  have HE : Hid (encV ⟨4, t, LA, ln, lc, l, FA, fn, fc, f, KA, kn, kc, r⟩ = 4 :: (le ln 4 ++ encS l)) := Lib.hid (by rw [enc_of hc]; rfl)
  have b0 : Below w.heap.size w (w.alloc (.cells #[.int .i64 4, .string t, .slice LA ln lc, .slice FA fn fc, .slice KA kn kc] 42)) := (Below.refl _ w).alloc (Nat.le_refl _) _
  have p0 : (w.alloc (.cells #[.int .i64 4, .string t, .slice LA ln lc, .slice FA fn fc, .slice KA kn kc] 42)).heap[w.heap.size]? = some (.cells #[.int .i64 4, .string t, .slice LA ln lc, .slice FA fn fc, .slice KA kn kc] 42 (0, 0)) := heap_alloc_new w _
  clear hc
  go_enter Tryz.func58, Tryz.ntmps58
  go_wp2_with fail
  refine (hck _ ⟨hr.l.below b0, hr.f.below b0, hr.k.below b0⟩).mono ?_
  rintro e w1 ⟨rfl, b1⟩
  have B1 := b0.trans (b1.mono b0.size)
  have p1 := box5 p0 b1
  have hx1 : w.heap.size < w1.heap.size := (Array.getElem?_eq_some_iff.1 p1).1
  obtain ⟨c0, c1, c2, c3, c4⟩ := box5c p1
  have P1 := Lib.hid p1
  clear p0 p1 b0 b1 hck
  have o1 := own_one w1 4
  have b2 : Below w1.heap.size w1 (w1.alloc (.cells #[.int .u8 4] 5)) := (Below.refl _ w1).alloc (Nat.le_refl _) _
  go_wp2_with fail
  refine (four_calls w1.heap.size _ [4] ln _ o1 b2.size hs.ln (by decide)).mono ?_
  rintro e w3 ⟨v3, rfl, o3, b3⟩
  have b13 := b2.trans (b3.below b2.size)
  have R1 : RdS w1 LA ln lc l := hr.l.below B1
  have HL : Hid (l.length = ln) := Lib.hid (rds_len R1)
  have hcap : ln ≤ lc := R1.cap
  have hbig : lc ≤ 9223372036854775807 := R1.big
  have hn1 := hs.ln
  have hE : (encS l).length ≤ 100000000 := hs.s
  dsimp only at hn1
  clear b3 o1 b2 c0 c1 c2 c3 c4 hr
  obtain ⟨c0, c1, c2, c3, c4⟩ := box5c (box5 P1.out b13)
  go_wp2_with fail
  go_loopw [5, 6] (fun u i wr => ∃ k : Nat, k ≤ ln ∧ i = .int .i64 k ∧ OwnY wr w1.heap.size u ([4] ++ (le ln 4 ++ encS (l.take k))) ∧ Below w1.heap.size w1 wr) (fun _ i _ => ln - (intOf i).toNat)
  case atStart => exact ⟨0, Nat.zero_le _, rfl, by simpa [encS] using o3, b13⟩
  case round =>
    clear c0 c1 c2 c3 c4 b13 o3
    obtain ⟨k, hk, rfl, ok, bk⟩ := hrel
    obtain ⟨c0, c1, c2, c3, c4⟩ := box5c (box5 P1.out bk)
    by_cases hlt : k < ln
    · obtain ⟨s, hs1⟩ : ∃ s, l[k]? = some s := ⟨_, List.getElem?_eq_getElem (by have : l.length = ln := HL.out; omega)⟩
      obtain ⟨p, rfl, cp⟩ := rds_get (R1.below bk) hs1
      have hle := flat_le putL l (k + 1)
      have hle' : (encS (l.take (k + 1))).length ≤ (encS l).length := hle
      rw [encS_take hs1, List.length_append, putL_len] at hle'
      have hsz : s.size ≤ 100000000 := by omega
      have hlen : ([4] ++ (le ln 4 ++ encS (l.take k))).length ≤ 10000000000 := by simp only [List.length_append, le_len, List.length_cons, List.length_nil]; omega
      have Hs := Lib.hid hs1
      clear hs1 hle hle'
      go_wp2_with fail
      refine (text_calls w1.heap.size _ _ s _ ok bk.size hsz hlen).mono ?_
      rintro e w4 ⟨v4, rfl, o4, b4⟩
      have b14 := bk.trans (b4.below bk.size)
      go_wp2_with fail
      refine ⟨⟨k + 1, by omega, by go_num, ?_, b14⟩, by simp [intOf]; omega⟩
      rw [encS_take Hs.out]
      simpa [List.append_assoc] using o4
    · obtain rfl : k = ln := by omega
      rw [List.take_of_length_le (by have : l.length = k := HL.out; omega)] at ok
      have hcv := Base.convert_own (P := Tryz.prog) (dst := 9) elY.ht Tryz.underlying5 Tryz.underlying9 ok
      go_wp2_with fail
      go_ret2
      exact ⟨by rw [HE.out]; rfl, B1.trans (bk.mono B1.size)⟩
set_option maxHeartbeats 4000000 in
theorem encR_5 (t : ByteArray) (LA : Option Addr) (ln lc : Nat) (l : List ByteArray) (FA : Option Addr) (fn fc : Nat) (f : List (ByteArray × ByteArray)) (KA : Option Addr) (kn kc : Nat) (r : List (ByteArray × Int)) (w : World) (hr : RdV w ⟨5, t, LA, ln, lc, l, FA, fn, fc, f, KA, kn, kc, r⟩) (hs : Sm ⟨5, t, LA, ln, lc, l, FA, fn, fc, f, KA, kn, kc, r⟩) (hc : chk ⟨5, t, LA, ln, lc, l, FA, fn, fc, f, KA, kn, kc, r⟩ = 0) :
    Calls Tryz.prog 58 #[.agg #[.int .i64 5, .string t, .slice LA ln lc, .slice FA fn fc, .slice KA kn kc]] w fun e w' => e = .returned (.tuple #[.string ⟨(encV ⟨5, t, LA, ln, lc, l, FA, fn, fc, f, KA, kn, kc, r⟩).toArray⟩, .int .i64 0]) ∧ Below w.heap.size w w' := by
  have hck : ∀ w', RdV w' ⟨5, t, LA, ln, lc, l, FA, fn, fc, f, KA, kn, kc, r⟩ → Calls Tryz.prog 66 #[.agg #[.int .i64 5, .string t, .slice LA ln lc, .slice FA fn fc, .slice KA kn kc]] w' fun e w'' => e = .returned (.int .i64 (chk ⟨5, t, LA, ln, lc, l, FA, fn, fc, f, KA, kn, kc, r⟩)) ∧ Below w'.heap.size w' w'' := fun w' h => checkR_calls ⟨5, t, LA, ln, lc, l, FA, fn, fc, f, KA, kn, kc, r⟩ w' h hs.kn
  rw [hc] at hck
  have HE : Hid (encV ⟨5, t, LA, ln, lc, l, FA, fn, fc, f, KA, kn, kc, r⟩ = 5 :: (le kn 4 ++ encK r)) := Lib.hid (by rw [enc_of hc]; rfl)
  have b0 : Below w.heap.size w (w.alloc (.cells #[.int .i64 5, .string t, .slice LA ln lc, .slice FA fn fc, .slice KA kn kc] 42)) := (Below.refl _ w).alloc (Nat.le_refl _) _
  have p0 : (w.alloc (.cells #[.int .i64 5, .string t, .slice LA ln lc, .slice FA fn fc, .slice KA kn kc] 42)).heap[w.heap.size]? = some (.cells #[.int .i64 5, .string t, .slice LA ln lc, .slice FA fn fc, .slice KA kn kc] 42 (0, 0)) := heap_alloc_new w _
  clear hc
  go_enter Tryz.func58, Tryz.ntmps58
  go_wp2_with fail
  refine (hck _ ⟨hr.l.below b0, hr.f.below b0, hr.k.below b0⟩).mono ?_
  rintro e w1 ⟨rfl, b1⟩
  have B1 := b0.trans (b1.mono b0.size)
  have p1 := box5 p0 b1
  have hx1 : w.heap.size < w1.heap.size := (Array.getElem?_eq_some_iff.1 p1).1
  obtain ⟨c0, c1, c2, c3, c4⟩ := box5c p1
  have P1 := Lib.hid p1
  clear p0 p1 b0 b1 hck
  have o1 := own_one w1 5
  have b2 : Below w1.heap.size w1 (w1.alloc (.cells #[.int .u8 5] 5)) := (Below.refl _ w1).alloc (Nat.le_refl _) _
  go_wp2_with fail
  refine (four_calls w1.heap.size _ [5] kn _ o1 b2.size hs.kn (by decide)).mono ?_
  rintro e w3 ⟨v3, rfl, o3, b3⟩
  have b13 := b2.trans (b3.below b2.size)
  have R1 : RdK w1 KA kn kc r := hr.k.below B1
  have HL : Hid (r.length = kn) := Lib.hid (rdk_len R1)
  have hcap : kn ≤ kc := R1.cap
  have hbig : kc ≤ 9223372036854775807 := R1.big
  have hn1 := hs.kn
  have hE : (encK r).length ≤ 100000000 := hs.k
  dsimp only at hn1
  clear b3 o1 b2 c0 c1 c2 c3 c4 hr
  obtain ⟨c0, c1, c2, c3, c4⟩ := box5c (box5 P1.out b13)
  go_wp2_with fail
  go_loopw [5, 8] (fun u i wr => ∃ k : Nat, k ≤ kn ∧ i = .int .i64 k ∧ OwnY wr w1.heap.size u ([5] ++ (le kn 4 ++ encK (r.take k))) ∧ Below w1.heap.size w1 wr) (fun _ i _ => kn - (intOf i).toNat)
  case atStart => exact ⟨0, Nat.zero_le _, rfl, by simpa [encK] using o3, b13⟩
  case round =>
    clear c0 c1 c2 c3 c4 b13 o3
    obtain ⟨k, hk, rfl, ok, bk⟩ := hrel
    obtain ⟨c0, c1, c2, c3, c4⟩ := box5c (box5 P1.out bk)
    by_cases hlt : k < kn
    · obtain ⟨s, hs1⟩ : ∃ s, r[k]? = some s := ⟨_, List.getElem?_eq_getElem (by have : r.length = kn := HL.out; omega)⟩
      obtain ⟨p, rfl, cp0, cp1⟩ := rdk_get R1 hs1
      have SE : Se w1 ⟨w.heap.size, 4, none⟩ (p.add (k * 2)) ⟨(p.add (k * 2)).block, (p.add (k * 2)).off + 1, none⟩ (.slice (some p) kn kc) (.string s.1) (.int .i64 s.2) w1 := ⟨Below.refl _ _, (box5c P1.out).2.2.2.2, cp0, cp1⟩
      have hle := flat_le (fun x : ByteArray × Int => le (w64 x.2) 8 ++ putL x.1) r (k + 1)
      have hle' : (encK (r.take (k + 1))).length ≤ (encK r).length := hle
      rw [encK_take hs1, List.length_append, List.length_append, putL_len, le_len] at hle'
      have hsz : s.1.size ≤ 100000000 := by omega
      have hlen : ([5] ++ (le kn 4 ++ encK (r.take k))).length + 8 ≤ 10000000000 := by simp only [List.length_append, le_len, List.length_cons, List.length_nil]; omega
      have hlen2 : ([5] ++ (le kn 4 ++ encK (r.take k)) ++ le (w64 s.2) 8).length ≤ 10000000000 := by simp only [List.length_append, le_len, List.length_cons, List.length_nil]; omega
      have Hs := Lib.hid hs1
      clear hs1 hle hle' cp0 cp1 c0 c1 c2 c3 c4
      obtain ⟨-, c4, k0, k1⟩ := se_mk SE bk
      go_wp2_with fail
      rw [w64_wrap]
      refine (fixr_calls (w64 s.2) 8 _ (by decide) (by decide) (w64_lt _)).mono ?_
      rintro e w6 ⟨rfl, b6⟩
      have o6 := (ownb ok b6)
      have bk6 := bk.trans (b6.mono bk.size)
      clear c4 k0 k1 ok bk b6
      obtain ⟨-, c4, k0, k1⟩ := se_mk SE bk6
      have okd := o6.drew
      have bkd := bk6.drew
      have hln8 := le_len (w64 s.2) 8
      go_wp2_with fail
      go_region_held3 (fun w' => Se w1 ⟨w.heap.size, 4, none⟩ (p.add (k * 2)) ⟨(p.add (k * 2)).block, (p.add (k * 2)).off + 1, none⟩ (.slice (some p) kn kc) (.string s.1) (.int .i64 s.2) w')
        (first | exact se_mk SE (by assumption))
        (first
          | (refine step_of_list rfl ?_; refine wpList_appS rfl (.tmp 104) (.tmp 105) rfl w1.heap.size _ _ rfl okd _ rfl (by simp [ByteArray.size, hln8] at hlen ⊢; omega) bkd.size ?_; intro v4 w4 o4 b4; refine ⟨rfl, ?_⟩; have B4 := bkd.trans (b4.below bkd.size))
          | (go_at_call 83; refine (text_calls w1.heap.size _ _ s.1 _ o4 B4.size hsz hlen2).mono ?_; rintro e w5 ⟨v5, rfl, o5, b5⟩; have B5 := B4.trans (b5.below B4.size)))
      all_goals (
        go_wp2_with fail
        refine ⟨⟨k + 1, by omega, by go_num, ?_, B5⟩, by simp [intOf]; omega⟩
        rw [encK_take Hs.out]
        simpa [List.append_assoc] using o5)
    · obtain rfl : k = kn := by omega
      rw [List.take_of_length_le (by have : r.length = k := HL.out; omega)] at ok
      have hcv := Base.convert_own (P := Tryz.prog) (dst := 9) elY.ht Tryz.underlying5 Tryz.underlying9 ok
      go_wp2_with fail
      go_ret2
      exact ⟨by rw [HE.out]; rfl, B1.trans (bk.mono B1.size)⟩

set_option maxHeartbeats 4000000 in
theorem encR_calls (x : VV) (w : World) (hr : RdV w x) (hs : Sm x) :
    Calls Tryz.prog 58 #[x.val] w fun e w' => e = .returned (.tuple #[.string ⟨(encV x).toArray⟩, .int .i64 (chk x)]) ∧ Below w.heap.size w w' := by
  by_cases hc : chk x = 0
  · rw [hc]
    have hk := isK_of hc
    obtain ⟨k, t, LA, ln, lc, l, FA, fn, fc, f, KA, kn, kc, r⟩ := x
    dsimp only at hk
    rcases hk with rfl | rfl | rfl | rfl | rfl
    · exact encR_1 t LA ln lc l FA fn fc f KA kn kc r w hr hs hc
    · exact encR_2 t LA ln lc l FA fn fc f KA kn kc r w hr hs hc
    · exact encR_3 t LA ln lc l FA fn fc f KA kn kc r w hr hs hc
    · exact encR_4 t LA ln lc l FA fn fc f KA kn kc r w hr hs hc
    · exact encR_5 t LA ln lc l FA fn fc f KA kn kc r w hr hs hc
  · have hv : x.val = .agg #[.int .i64 x.kind, .string x.text, .slice x.LA x.ln x.lc, .slice x.FA x.fn x.fc, .slice x.KA x.kn x.kc] := rfl
    have hck := fun w' (h : RdV w' x) => checkR_calls x w' h hs.kn
    rw [enc_no hc]
    rw [hv] at hck ⊢
    have b0 : Below w.heap.size w (w.alloc (.cells #[.int .i64 x.kind, .string x.text, .slice x.LA x.ln x.lc, .slice x.FA x.fn x.fc, .slice x.KA x.kn x.kc] 42)) := (Below.refl _ w).alloc (Nat.le_refl _) _
    go_enter Tryz.func58, Tryz.ntmps58
    go_wp2_with fail
    refine (hck _ (hr.below b0)).mono ?_
    rintro e w1 ⟨rfl, b1⟩
    go_wp2_with fail
    go_ret2
    exact ⟨rfl, b0.trans (b1.mono b0.size)⟩

end Go.Proofs.YtgmnnpbbiejbnaaGreat.VaZ
