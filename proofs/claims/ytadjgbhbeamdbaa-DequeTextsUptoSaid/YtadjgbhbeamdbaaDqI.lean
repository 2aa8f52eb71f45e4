/-
  What awake, the examples, hands back: true. Conditions: none.
-/
import Derived.Test.YtadjgbhbeamdbaaDqC
import Derived.Test.YtadjgbhbeamdbaaDqE
import Derived.Test.YtadjgbhbeamdbaaDqH
set_option maxRecDepth 100000
set_option linter.unusedSimpArgs false
set_option linter.unusedVariables false
namespace Go.Proofs.Ytadjgbhbeamdbaa.DqI
open Go.RowKit Go.Proofs.Ytadjgbhbeamdbaa.Mem Go.Proofs.Ytadjgbhbeamdbaa.DqA Go.Proofs.Ytadjgbhbeamdbaa.DqB Go.Proofs.Ytadjgbhbeamdbaa.DqC Go.Proofs.Ytadjgbhbeamdbaa.DqD Go.Proofs.Ytadjgbhbeamdbaa.DqE Go.Proofs.Ytadjgbhbeamdbaa.DqF Go.Proofs.Ytadjgbhbeamdbaa.DqG Go.Proofs.Ytadjgbhbeamdbaa.DqH

/-- A literal reads as its list. -/
theorem rd_lit (w : World) (cs : Array Value) (l : List Int) (n : Nat) (hc : cs.toList = ints l) (hn : cs.size = n) (hb : n ≤ maxLen) : RdI (w.alloc (.cells cs 3)) (some ⟨w.heap.size, 0, none⟩) n n l := by
  have := Rd.of_own (World.ownsRow_lit (base := 0) (e := 3) (size := 1) w cs n (Nat.zero_le _) hb (by omega))
  rwa [hc] at this

theorem dq_below {w w' : World} {B g : Nat} {v : Value} {l : List Int} (h : Dq w B g v l) (hb : Below w.heap.size w w') : Dq w' B g v l := by
  have hg := h.lt
  obtain ⟨xs, f, a, b, c, d⟩ := h
  have hlt := c.lt
  exact Dq.only ⟨xs, f, a, b, c, d⟩ (Only.of_below hb) (by omega) (fun k hk hk2 => by have := (hlt k hk).2; omega)
theorem dq_ge {w : World} {B g : Nat} {v : Value} {l : List Int} (h : Dq w B g v l) : B ≤ g := by obtain ⟨xs, f, a, b, c⟩ := h; exact b
theorem below_on {w w1 w' : World} {S : Nat} (h : Below w.heap.size w w1) (k : Below S w1 w') (hS : w.heap.size ≤ S) : Below w.heap.size w w' :=
  (Only.of_below k).after h (Nat.le_refl _) (fun b hb => Nat.le_trans hS hb)
theorem below_drawn {w w' : World} {B : Nat} (h : Below B w w') (n : Nat) : Below B w (w'.drewN n) := ⟨h.os, h.tape, h.output, h.size, h.block⟩
theorem below_new {w w1 w' : World} (h : Below w.heap.size w w1) (k : Below w1.heap.size w1 w') : Below w.heap.size w w' := below_on h k h.size

theorem find_ex : findL [1, 2, 1, 3, 1] 1 (-1) 2 0 = [4, 2] := by
  unfold findL
  rw [if_neg (by decide), go_take (by decide) (by decide) (by decide) (by decide), go_skip (by decide) (by decide) (by decide), go_take (by decide) (by decide) (by decide) (by decide), go_stop (by decide)]
  decide
theorem piece_ex : pieceL [1, 2, 1, 3, 1] (-3) (-1) = [1, 3, 1] := by decide
theorem remove_ex : removeL [1, 2, 1, 3, 1] (-2) 1 = [1, 2, 3] := by decide

set_option maxHeartbeats 1000000 in
theorem awake_calls (w : World) : Calls Try.prog 6 #[] w fun e w' => e = .returned (.bool true) ∧ Below w.heap.size w w' := by
  go_enter Try.func6, Try.ntmps6
  go_wp2_with fail
  refine (of_calls _ 5 5 [1, 2, 1, 3, 1] _ (rd_lit w #[.int .i64 1, .int .i64 2, .int .i64 1, .int .i64 3, .int .i64 1] _ 5 rfl rfl (by decide)) (by decide)).mono ?_
  rintro e w1 ⟨g, v, rfl, hd, hb⟩
  go_wp2_with fail
  refine (len_calls _ g v _ _ hd).mono ?_
  rintro e w2 ⟨rfl, nd, rfl⟩
  go_wp2_with fail
  refine (slice_calls _ g v _ (-3) (-1) _ (hd.drawn nd) (by decide) (by decide) (by decide) (by decide)).mono ?_
  rintro e w2 ⟨s1, rfl, ho1, hb1⟩
  rw [piece_ex] at ho1
  obtain ⟨A1, c1, rfl⟩ := own_form ho1
  go_wp2_with fail
  have hz1 : w.heap.size ≤ w1.heap.size := by have := hb.size; simp at this; omega
  have hB1 : Below w.heap.size w w1 := below_on ((Below.refl _ w).alloc (Nat.le_refl _) _) hb (by simp)
  have hB2 : Below w.heap.size w w2 := below_new (w1 := w1.drewN nd) (below_drawn hB1 nd) hb1
  have hd2 := dq_below (hd.drawn nd) hb1
  refine (same_calls A1 _ 3 3 c1 3 [1, 3, 1] [1, 3, 1] _ (Rd.of_own (ho1.alloc _)) (rd_lit w2 #[.int .i64 1, .int .i64 3, .int .i64 1] _ 3 rfl rfl (by decide))).mono ?_
  rintro e w3 ⟨rfl, nd3, rfl⟩
  have hd3 := (dq_below hd2 ((Below.refl _ w2).alloc (Nat.le_refl _) (.cells #[.int .i64 1, .int .i64 3, .int .i64 1] 3))).drawn nd3
  have hB3 := below_drawn (hB2.alloc hB2.size (.cells #[.int .i64 1, .int .i64 3, .int .i64 1] 3)) nd3
  generalize ((w2.alloc (.cells #[.int .i64 1, .int .i64 3, .int .i64 1] 3)).drewN nd3) = w3 at hd3 hB3 ⊢
  go_wp2_with fail
  refine (find_calls _ g v _ 1 (-1) 2 0 _ hd3 (by decide) (by decide)).mono ?_
  rintro e w4 ⟨s2, rfl, ho2, hb2⟩
  rw [find_ex] at ho2
  obtain ⟨A2, c2, rfl⟩ := own_form ho2
  go_wp2_with fail
  have hd4 := dq_below hd3 hb2
  have hB4 : Below w.heap.size w w4 := below_new hB3 hb2
  refine (same_calls A2 _ 2 2 c2 2 [4, 2] [4, 2] _ (Rd.of_own (ho2.alloc _)) (rd_lit w4 #[.int .i64 4, .int .i64 2] _ 2 rfl rfl (by decide))).mono ?_
  rintro e w5 ⟨rfl, nd5, rfl⟩
  have hd5 := (dq_below hd4 ((Below.refl _ w4).alloc (Nat.le_refl _) (.cells #[.int .i64 4, .int .i64 2] 3))).drawn nd5
  have hB5 := below_drawn (hB4.alloc hB4.size (.cells #[.int .i64 4, .int .i64 2] 3)) nd5
  generalize ((w4.alloc (.cells #[.int .i64 4, .int .i64 2] 3)).drewN nd5) = w5 at hd5 hB5 ⊢
  go_wp2_with fail
  refine (remove_calls _ g v _ (-2) 1 _ hd5 (by decide) (by decide)).mono ?_
  rintro e w6 ⟨v6, rfl, hd6, hO6, hf6⟩
  rw [remove_ex] at hd6 ⊢
  have hge := dq_ge hd
  simp at hge
  have hB6 : Below w.heap.size w w6 := hO6.after hB5 (Nat.le_refl _) (fun b hb => by omega)
  go_wp2_with fail
  refine (insert_calls _ g v6 _ true 3 9 _ hd6 (by decide)).mono ?_
  rintro e w7 (⟨hno, _⟩ | ⟨i, v7, hi, hni, rfl, hd7, hO7, hf7⟩)
  · exact absurd (by decide) hno
  obtain rfl : i = 2 := by
    rcases i with _ | _ | _ | i
    · simp at hi
    · simp at hi
    · rfl
    · simp at hi
  have hB7 : Below w.heap.size w w7 := hO7.after hB6 (Nat.le_refl _) (fun b hb => by omega)
  have hd7' : Dq w7 _ g v7 [1, 2, 9, 3] := hd7
  go_wp2_with fail
  refine (list_calls _ g v7 _ _ hd7').mono ?_
  rintro e w8 ⟨s8, rfl, ho8, hb8⟩
  obtain ⟨A8, c8, rfl⟩ := own_form ho8
  have hB8 : Below w.heap.size w w8 := below_new hB7 hb8
  go_wp2_with fail
  refine (same_calls A8 _ 4 4 c8 4 [1, 2, 9, 3] [1, 2, 9, 3] _ (Rd.of_own (ho8.alloc _)) (rd_lit w8 #[.int .i64 1, .int .i64 2, .int .i64 9, .int .i64 3] _ 4 rfl rfl (by decide))).mono ?_
  rintro e w9 ⟨rfl, nd9, rfl⟩
  go_wp2_with fail
  go_ret
  exact ⟨by simp, below_drawn (hB8.alloc hB8.size _) nd9⟩
end Go.Proofs.Ytadjgbhbeamdbaa.DqI
