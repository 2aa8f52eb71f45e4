/-
  The document's lets, cut. Conditions: as stated.
  The document's Pop, Slice. Conditions: as stated.
-/
import Derived.Test.YtakhcfemakapbaaGreatDoorRgG
import Derived.Test.YtakhcfemakapbaaGreatDoorRgF
set_option maxRecDepth 100000
set_option linter.unusedSimpArgs false
set_option linter.unusedVariables false
namespace Go.Proofs.YtakhcfemakapbaaGreatDoor.RjD
open Go Go.RowKit Go.Shelf Go.Sort Go.Proofs.YtakhcfemakapbaaGreatDoor.Mem Go.Proofs.YtakhcfemakapbaaGreatDoor.DuA Go.Proofs.YtakhcfemakapbaaGreatDoor.DuM Go.Proofs.YtakhcfemakapbaaGreatDoor.DuN Go.Proofs.YtakhcfemakapbaaGreatDoor.RkA Go.Proofs.YtakhcfemakapbaaGreatDoor.RkC Go.Proofs.YtakhcfemakapbaaGreatDoor.RkB Go.Proofs.YtakhcfemakapbaaGreatDoor.RkE Go.Proofs.YtakhcfemakapbaaGreatDoor.RkI Go.Proofs.YtakhcfemakapbaaGreatDoor.RkP Go.Proofs.YtakhcfemakapbaaGreatDoor.RkR Go.Proofs.YtakhcfemakapbaaGreatDoor.RkS Go.Proofs.YtakhcfemakapbaaGreatDoor.RkY

theorem cmpI_in (a b : Int) : -1 ≤ cmpI a b ∧ cmpI a b ≤ 1 := by unfold cmpI; split; omega; split <;> omega
theorem cmpT_in (a b : ByteArray) : -1 ≤ cmpT a b ∧ cmpT a b ≤ 1 := by unfold cmpT; split; omega; split <;> omega
set_option maxHeartbeats 1000000 in
theorem letsR_calls (b : Bd) (c : Int) (low : Bool) (w : World) (hi : inI b.inf) (hc : -1 ≤ c ∧ c ≤ 1) : Calls Tryz.prog 67 #[bV b, .int .i64 c, .bool low] w fun e w' => e = .returned (.bool (letB b c low)) ∧ w' = w.alloc (bo b) := by
  obtain ⟨inf, opn, score, name⟩ := b
  obtain ⟨hi1, hi2⟩ := hi
  simp only at hi1 hi2
  unfold letB
  simp only
  have hcc : c = -1 ∨ c = 0 ∨ c = 1 := by omega
  clear hc
  rcases Int.lt_trichotomy inf 0 with h | h | h
  · have h0 : inf ≠ 0 := by omega
    rw [if_pos h0, decide_eq_true h]
    have hmx : max inf (-1) = -1 := by omega
    clear h0
    cases low
    · rcases hcc with rfl | rfl | rfl
      all_goals (
        go_enter Tryz.func67, Tryz.ntmps67
        go_wp2_with fail
        go_ret
        exact ⟨rfl, rfl⟩)
    · rcases hcc with rfl | rfl | rfl
      all_goals (
        go_enter Tryz.func67, Tryz.ntmps67
        go_wp2_with fail
        go_ret
        exact ⟨rfl, rfl⟩)
  · subst h
    rw [if_neg (by simp)]
    cases low
    · rcases hcc with rfl | rfl | rfl
      all_goals (
        go_enter Tryz.func67, Tryz.ntmps67
        go_wp2_with fail
        go_ret
        exact ⟨rfl, rfl⟩)
    · rcases hcc with rfl | rfl | rfl
      all_goals (
        go_enter Tryz.func67, Tryz.ntmps67
        go_wp2_with fail
        go_ret
        exact ⟨rfl, rfl⟩)
  · have h0 : inf ≠ 0 := by omega
    rw [if_pos h0, decide_eq_false (show ¬ inf < 0 by omega)]
    have hmx : max inf (-1) = inf := by omega
    clear h0
    cases low
    · rcases hcc with rfl | rfl | rfl
      all_goals (
        go_enter Tryz.func67, Tryz.ntmps67
        go_wp2_with fail
        go_ret
        exact ⟨rfl, rfl⟩)
    · rcases hcc with rfl | rfl | rfl
      all_goals (
        go_enter Tryz.func67, Tryz.ntmps67
        go_wp2_with fail
        go_ret
        exact ⟨rfl, rfl⟩)
theorem letsR_grown (b : Bd) (c : Int) (low : Bool) (w : World) (hi : inI b.inf) (hc : -1 ≤ c ∧ c ≤ 1) : Calls Tryz.prog 67 #[bV b, .int .i64 c, .bool low] w fun e w' => e = .returned (.bool (letB b c low)) ∧ ∃ q os, w' = grow (w.drewN q) os := by
  refine (letsR_calls b c low w hi hc).mono ?_
  rintro e w' ⟨rfl, rfl⟩
  exact ⟨rfl, 0, _, by rw [alloc_eq_grow]; rfl⟩
theorem orderR_grown (a b : Int) (w : World) : Calls Tryz.prog 68 #[.int .i64 a, .int .i64 b] w fun e w' => e = .returned (.int .i64 (cmpI a b)) ∧ ∃ q os, w' = grow (w.drewN q) os := by
  refine (RjC.orderR_calls a b w).mono ?_
  rintro e w' ⟨rfl, rfl⟩
  exact ⟨rfl, 0, #[], by rw [grow_empty]; rfl⟩
theorem textsR_grown (a b : ByteArray) (w : World) : Calls Tryz.prog 70 #[.string a, .string b] w fun e w' => e = .returned (.int .i64 (cmpT a b)) ∧ ∃ q os, w' = grow (w.drewN q) os := by
  refine (RjC.textsR_calls a b w).mono ?_
  rintro e w' ⟨rfl, rfl⟩
  exact ⟨rfl, 0, #[], by rw [grow_empty]; rfl⟩
theorem cut_is (l : List En) (skip most : Int) (S : Nat) (hS : max 0 (min skip (l.length : Int)) = (S : Int)) : cutL l skip most = if 0 ≤ most ∧ most < ((l.length - S : Nat) : Int) then (l.drop S).take most.toNat else l.drop S := by
  have hd : l.drop skip.toNat = l.drop S := by
    rcases Nat.lt_or_ge l.length skip.toNat with h | h
    · rw [List.drop_of_length_le (by omega), List.drop_of_length_le (by omega)]
    · rw [show skip.toNat = S by omega]
  unfold cutL
  rw [hd]
  by_cases h1 : most < 0
  · rw [if_pos h1, if_neg (by omega)]
  · rw [if_neg h1]
    by_cases h2 : most < ((l.length - S : Nat) : Int)
    · rw [if_pos ⟨by omega, h2⟩]
    · rw [if_neg (fun h => h2 h.2), List.take_of_length_le (by rw [List.length_drop]; omega)]
set_option maxHeartbeats 1000000 in
theorem cutR_calls (A : Option Addr) (n c : Nat) (l : List En) (skip most : Int) (w : World) (hr : RdE w A n c l) (hn : n ≤ 1000000000) (hs : inI skip) (hm : inI most) :
    Calls Tryz.prog 69 #[.slice A n c, .int .i64 skip, .int .i64 most] w fun e w' => ∃ A' n' c', e = .returned (.slice A' n' c') ∧ RdE w A' n' c' (cutL l skip most) ∧ w' = w := by
  obtain rfl := rde_len hr
  have hcap := hr.cap
  obtain ⟨hs1, hs2⟩ := hs
  obtain ⟨hm1, hm2⟩ := hm
  obtain ⟨S, hS⟩ : ∃ S : Nat, max 0 (min skip (l.length : Int)) = (S : Int) := ⟨(max 0 (min skip (l.length : Int))).toNat, by omega⟩
  have hSl : S ≤ l.length := by omega
  rw [cut_is l skip most S hS]
  have r1 := rde_drop hr hSl
  have hcf := fun W => cut_from A l.length c S hSl hcap W
  obtain ⟨A4, hA4⟩ : ∃ A4, A4 = (if c = S then A else A.map (·.add (S * 2))) := ⟨_, rfl⟩
  obtain ⟨n4, hn4⟩ : ∃ n4, n4 = l.length - S := ⟨_, rfl⟩
  obtain ⟨c4, hc4⟩ : ∃ c4, c4 = c - S := ⟨_, rfl⟩
  rw [← hA4, ← hn4, ← hc4] at r1
  simp only [← hA4, ← hn4, ← hc4] at hcf
  rw [← hn4]
  have hn4b : n4 ≤ 1000000000 := by omega
  have hcap4 : n4 ≤ c4 := by omega
  have HR := Lib.hid r1
  clear r1 hA4 hn4 hc4 hr hcap
  by_cases h1 : 0 ≤ most
  · by_cases h2 : most < (n4 : Int)
    · rw [if_pos ⟨h1, h2⟩]
      obtain ⟨T, rfl⟩ : ∃ T : Nat, most = T := ⟨most.toNat, by omega⟩
      have hcp := fun W => cut_pre A4 n4 c4 T (by omega) W
      have HT := Lib.hid (rde_take HR.out (k := T) (by omega))
      go_enter Tryz.func69, Tryz.ntmps69
      go_wp2_with fail
      go_ret
      exact ⟨_, _, _, rfl, by simpa using HT.out, rfl⟩
    · rw [if_neg (fun h => h2 h.2)]
      go_enter Tryz.func69, Tryz.ntmps69
      go_wp2_with fail
      go_ret
      exact ⟨_, _, _, rfl, HR.out, rfl⟩
  · rw [if_neg (fun h => h1 h.1)]
    go_enter Tryz.func69, Tryz.ntmps69
    go_wp2_with fail
    go_ret
    exact ⟨_, _, _, rfl, HR.out, rfl⟩
end Go.Proofs.YtakhcfemakapbaaGreatDoor.RjD
set_option maxRecDepth 100000
set_option linter.unusedSimpArgs false
set_option linter.unusedVariables false
namespace Go.Proofs.YtakhcfemakapbaaGreatDoor.RjH
open Go Go.RowKit Go.Shelf Go.Sort Go.Proofs.YtakhcfemakapbaaGreatDoor.Mem Go.Proofs.YtakhcfemakapbaaGreatDoor.DuA Go.Proofs.YtakhcfemakapbaaGreatDoor.DuM Go.Proofs.YtakhcfemakapbaaGreatDoor.DuN Go.Proofs.YtakhcfemakapbaaGreatDoor.RkA Go.Proofs.YtakhcfemakapbaaGreatDoor.RkC Go.Proofs.YtakhcfemakapbaaGreatDoor.RkB Go.Proofs.YtakhcfemakapbaaGreatDoor.RkE Go.Proofs.YtakhcfemakapbaaGreatDoor.RkF Go.Proofs.YtakhcfemakapbaaGreatDoor.RkI Go.Proofs.YtakhcfemakapbaaGreatDoor.RkP Go.Proofs.YtakhcfemakapbaaGreatDoor.RkR Go.Proofs.YtakhcfemakapbaaGreatDoor.RkX Go.Proofs.YtakhcfemakapbaaGreatDoor.RkY Go.Proofs.YtakhcfemakapbaaGreatDoor.RjB Go.Proofs.YtakhcfemakapbaaGreatDoor.RjD

set_option maxHeartbeats 400000 in
theorem popR_calls (A : Option Addr) (n c : Nat) (l : List En) (k : Int) (g : Bool) (w : World) (hr : RdE w A n c l) (hn : n ≤ 1000000000) (hk : inI k) :
    Calls Tryz.prog 45 #[.slice A n c, .int .i64 k, .bool g] w fun e w' => ∃ A1 n1 c1 A2 n2 c2, e = .returned (.tuple #[.slice A1 n1 c1, .slice A2 n2 c2]) ∧ RdE w' A1 n1 c1 (popL l k g) ∧ RdE w' A2 n2 c2 (leftL l k g) ∧ Below w.heap.size w w' ∧ Near A A2 w.heap.size w'.heap.size ∧ Near A A1 w.heap.size w'.heap.size := by
  obtain rfl := rde_len hr
  have hcap := hr.cap
  obtain ⟨hk1, hk2⟩ := hk
  obtain ⟨T, hT⟩ : ∃ T : Nat, popN l k = T := ⟨_, rfl⟩
  have hT1 : max 0 (min k (l.length : Int)) = (T : Int) := by rw [← hT]; unfold popN; omega
  have hTl : T ≤ l.length := by omega
  have hsub : ((l.length : Int) - (T : Int)) = ((l.length - T : Nat) : Int) := by omega
  unfold popL leftL wayL
  rw [hT]
  clear hT
  cases g
  · simp only [Bool.false_eq_true, if_false]
    have r1 := rde_take hr hTl
    have r2 := rde_drop hr hTl
    have h1 := fun W => cut_pre A l.length c T (by omega) W
    have h2 := fun W => cut_from A l.length c T hTl hcap W
    have hnr : ∀ B E, Near A (if c = T then A else A.map (·.add (T * 2))) B E := fun B E => Near.cut A _ _ B E
    obtain ⟨A4, hA4⟩ : ∃ A4, A4 = (if c = T then A else A.map (·.add (T * 2))) := ⟨_, rfl⟩
    rw [← hA4] at hnr
    have HNR := Lib.hid hnr
    clear hnr
    obtain ⟨n4, hn4⟩ : ∃ n4, n4 = l.length - T := ⟨_, rfl⟩
    obtain ⟨c4, hc4⟩ : ∃ c4, c4 = c - T := ⟨_, rfl⟩
    rw [← hA4, ← hn4, ← hc4] at r2
    simp only [← hA4, ← hn4, ← hc4] at h2
    have HR := Lib.hid (And.intro r1 r2)
    clear r1 r2 hA4 hn4 hc4 hsub hr
    go_enter Tryz.func45, Tryz.ntmps45
    go_upto_region 4 with fail
    go_quiet (fail)
    go_wp2_with fail
    go_ret2
    exact ⟨_, _, _, _, _, _, rfl, HR.out.1.below (below_drawn_ (Below.refl _ _) nq), HR.out.2.below (below_drawn_ (Below.refl _ _) nq), below_drawn_ (Below.refl _ _) nq, HNR.out _ _, Near.refl _ _ _⟩
  · simp only [if_true]
    obtain ⟨m, hm⟩ : ∃ m, m = l.length - T := ⟨_, rfl⟩
    rw [← hm] at hsub
    have hml : m ≤ l.length := by omega
    have hwm : IntKind.i64.wrap (m : Int) = (m : Int) := by rw [IntKind.wrap_i64]; omega
    have r1 := rde_take hr hml
    have r2 := rde_drop hr hml
    have h1 := fun W => cut_pre A l.length c m (by omega) W
    have h2 := fun W => cut_from A l.length c m hml hcap W
    have hrev : (l.drop m).reverse = l.reverse.take T := by
      rw [hm]
      rw [List.reverse_drop]
      congr 1
      omega
    obtain ⟨A4, hA4⟩ : ∃ A4, A4 = (if c = m then A else A.map (·.add (m * 2))) := ⟨_, rfl⟩
    obtain ⟨n4, hn4⟩ : ∃ n4, n4 = l.length - m := ⟨_, rfl⟩
    obtain ⟨c4, hc4⟩ : ∃ c4, c4 = c - m := ⟨_, rfl⟩
    rw [← hA4, ← hn4, ← hc4] at r2
    simp only [← hA4, ← hn4, ← hc4] at h2
    rw [← hrev, ← hm]
    have hn4b : n4 ≤ 1000000000 := by omega
    have HR := Lib.hid (And.intro r1 (And.intro r2 hn4b))
    clear r1 r2 hA4 hn4 hc4 hr hm hrev hn4b
    go_enter Tryz.func45, Tryz.ntmps45
    go_upto_region 3 with fail
    go_region_held3 (fun w' => Below w.heap.size w w')
      (first | exact (Below.refl _ _).drew | assumption)
      (first
      | (go_at_call 71; refine (turned_calls A4 n4 c4 (l.drop m) _ (HR.out.2.1.below (below_drawn_ (Below.refl _ _) 1)) HR.out.2.2).mono ?_; rintro e w4 ⟨v4, rfl, o4, b4⟩; obtain ⟨A5, c5, rfl⟩ := own_form o4; have q4 : Below w.heap.size w w4 := (below_drawn_ (Below.refl _ _) 1).trans b4))
    all_goals (
      go_wp2_with fail
      go_ret2
      have bb : Below w.heap.size w w4 := (below_drawn_ (Below.refl _ _) 1).trans b4
      exact ⟨_, _, _, _, _, _, rfl, (by have q := Rd.of_own o4; have e : (l.drop m).reverse.length = l.length - m := (by simp); rw [e] at q; exact q), HR.out.1.below bb, bb, Near.refl _ _ _, Near.own o4⟩)
set_option maxHeartbeats 400000 in
theorem sliceR_calls (A : Option Addr) (n c : Nat) (l : List En) (a b : Int) (rev : Bool) (w : World) (hr : RdE w A n c l) (hn : n ≤ 1000000000) (ha : inI a) (hb : inI b) :
    Calls Tryz.prog 42 #[.slice A n c, .int .i64 a, .int .i64 b, .bool rev] w fun e w' => ∃ A' n' c', e = .returned (.slice A' n' c') ∧ RdE w' A' n' c' (sliceL l a b rev) ∧ Below w.heap.size w w' := by
  have hor := way_calls A n c l rev w hr hn
  have hln := rde_len hr
  obtain ⟨ha1, ha2⟩ := ha
  obtain ⟨hb1, hb2⟩ := hb
  have hwl := way_len l rev
  rw [hln] at hwl
  unfold sliceL
  rw [hln]
  obtain ⟨L, hL⟩ : ∃ L, L = wayL l rev := ⟨_, rfl⟩
  rw [← hL] at hor hwl ⊢
  have HW := Lib.hid hwl
  obtain ⟨lo, hlo⟩ : ∃ lo : Nat, fromI n a = lo := ⟨(fromI n a).toNat, by unfold fromI; split <;> omega⟩
  obtain ⟨T, hT⟩ : ∃ T, toI n b = T := ⟨_, rfl⟩
  rw [hlo, hT]
  have hTn : T ≤ (n : Int) - 1 := by rw [← hT]; unfold toI; omega
  unfold fromI at hlo
  unfold toI at hT
  clear hwl hL hr hln
  by_cases hge : T < (lo : Int)
  · rw [if_pos hge]
    by_cases ha0 : a < 0
    · rw [if_pos ha0] at hlo
      have hlo2 : max 0 (a + (n : Int)) = (lo : Int) := by omega
      clear hlo
      by_cases hb0 : b < 0
      · rw [if_pos hb0] at hT
        go_enter Tryz.func42, Tryz.ntmps42
        go_wp2_with fail
        go_ret
        exact ⟨_, _, _, rfl, Rd.nil _ _, Below.refl _ _⟩
      · rw [if_neg hb0] at hT
        go_enter Tryz.func42, Tryz.ntmps42
        go_wp2_with fail
        go_ret
        exact ⟨_, _, _, rfl, Rd.nil _ _, Below.refl _ _⟩
    · rw [if_neg ha0] at hlo
      subst hlo
      by_cases hb0 : b < 0
      · rw [if_pos hb0] at hT
        go_enter Tryz.func42, Tryz.ntmps42
        go_wp2_with fail
        go_ret
        exact ⟨_, _, _, rfl, Rd.nil _ _, Below.refl _ _⟩
      · rw [if_neg hb0] at hT
        go_enter Tryz.func42, Tryz.ntmps42
        go_wp2_with fail
        go_ret
        exact ⟨_, _, _, rfl, Rd.nil _ _, Below.refl _ _⟩
  · rw [if_neg hge]
    obtain ⟨cnt, hcnt⟩ : ∃ cnt : Nat, T + 1 = ((lo : Int) + (cnt : Nat)) := ⟨(T + 1 - lo).toNat, by omega⟩
    rw [show T.toNat + 1 - (lo : Int).toNat = cnt by omega, show (lo : Int).toNat = lo from rfl]
    by_cases ha0 : a < 0
    · rw [if_pos ha0] at hlo
      have hlo2 : max 0 (a + (n : Int)) = (lo : Int) := by omega
      clear hlo
      by_cases hb0 : b < 0
      · rw [if_pos hb0] at hT
        go_enter Tryz.func42, Tryz.ntmps42
        go_wp2_with fail
        refine hor.mono ?_
        clear hor
        rintro e w1 ⟨A1, n1, c1, rfl, r1, b1⟩
        obtain rfl : n1 = n := by rw [← rde_len r1]; exact HW.out
        have hsl := fun W => cut_mid A1 n1 c1 lo cnt (by have := r1.cap; omega) W
        have hr4 := rde_take (rde_drop r1 (k := lo) (by omega)) (k := cnt) (by omega)
        obtain ⟨A4, hA4⟩ : ∃ A4, A4 = (if c1 = lo then A1 else A1.map (·.add (lo * 2))) := ⟨_, rfl⟩
        obtain ⟨c4, hc4⟩ : ∃ c4, c4 = c1 - lo := ⟨_, rfl⟩
        rw [← hA4, ← hc4] at hr4
        simp only [← hA4, ← hc4] at hsl
        have HO := Lib.hid (And.intro hr4 b1)
        clear r1 b1 hr4 hA4 hc4
        go_wp2_with fail
        go_ret
        exact ⟨_, _, _, rfl, HO.out.1, HO.out.2⟩
      · rw [if_neg hb0] at hT
        go_enter Tryz.func42, Tryz.ntmps42
        go_wp2_with fail
        refine hor.mono ?_
        clear hor
        rintro e w1 ⟨A1, n1, c1, rfl, r1, b1⟩
        obtain rfl : n1 = n := by rw [← rde_len r1]; exact HW.out
        have hsl := fun W => cut_mid A1 n1 c1 lo cnt (by have := r1.cap; omega) W
        have hr4 := rde_take (rde_drop r1 (k := lo) (by omega)) (k := cnt) (by omega)
        obtain ⟨A4, hA4⟩ : ∃ A4, A4 = (if c1 = lo then A1 else A1.map (·.add (lo * 2))) := ⟨_, rfl⟩
        obtain ⟨c4, hc4⟩ : ∃ c4, c4 = c1 - lo := ⟨_, rfl⟩
        rw [← hA4, ← hc4] at hr4
        simp only [← hA4, ← hc4] at hsl
        have HO := Lib.hid (And.intro hr4 b1)
        clear r1 b1 hr4 hA4 hc4
        go_wp2_with fail
        go_ret
        exact ⟨_, _, _, rfl, HO.out.1, HO.out.2⟩
    · rw [if_neg ha0] at hlo
      subst hlo
      by_cases hb0 : b < 0
      · rw [if_pos hb0] at hT
        go_enter Tryz.func42, Tryz.ntmps42
        go_wp2_with fail
        refine hor.mono ?_
        clear hor
        rintro e w1 ⟨A1, n1, c1, rfl, r1, b1⟩
        obtain rfl : n1 = n := by rw [← rde_len r1]; exact HW.out
        have hsl := fun W => cut_mid A1 n1 c1 lo cnt (by have := r1.cap; omega) W
        have hr4 := rde_take (rde_drop r1 (k := lo) (by omega)) (k := cnt) (by omega)
        obtain ⟨A4, hA4⟩ : ∃ A4, A4 = (if c1 = lo then A1 else A1.map (·.add (lo * 2))) := ⟨_, rfl⟩
        obtain ⟨c4, hc4⟩ : ∃ c4, c4 = c1 - lo := ⟨_, rfl⟩
        rw [← hA4, ← hc4] at hr4
        simp only [← hA4, ← hc4] at hsl
        have HO := Lib.hid (And.intro hr4 b1)
        clear r1 b1 hr4 hA4 hc4
        go_wp2_with fail
        go_ret
        exact ⟨_, _, _, rfl, HO.out.1, HO.out.2⟩
      · rw [if_neg hb0] at hT
        go_enter Tryz.func42, Tryz.ntmps42
        go_wp2_with fail
        refine hor.mono ?_
        clear hor
        rintro e w1 ⟨A1, n1, c1, rfl, r1, b1⟩
        obtain rfl : n1 = n := by rw [← rde_len r1]; exact HW.out
        have hsl := fun W => cut_mid A1 n1 c1 lo cnt (by have := r1.cap; omega) W
        have hr4 := rde_take (rde_drop r1 (k := lo) (by omega)) (k := cnt) (by omega)
        obtain ⟨A4, hA4⟩ : ∃ A4, A4 = (if c1 = lo then A1 else A1.map (·.add (lo * 2))) := ⟨_, rfl⟩
        obtain ⟨c4, hc4⟩ : ∃ c4, c4 = c1 - lo := ⟨_, rfl⟩
        rw [← hA4, ← hc4] at hr4
        simp only [← hA4, ← hc4] at hsl
        have HO := Lib.hid (And.intro hr4 b1)
        clear r1 b1 hr4 hA4 hc4
        go_wp2_with fail
        go_ret
        exact ⟨_, _, _, rfl, HO.out.1, HO.out.2⟩
end Go.Proofs.YtakhcfemakapbaaGreatDoor.RjH
