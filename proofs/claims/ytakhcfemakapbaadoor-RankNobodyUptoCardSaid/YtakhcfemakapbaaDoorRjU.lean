/-
  A rank that is none; the law RankNobody. Conditions: as stated.
-/
import Derived.Test.YtakhcfemakapbaaDoorRgK
set_option maxRecDepth 100000
set_option linter.unusedSimpArgs false
set_option linter.unusedVariables false
namespace Go.Proofs.YtakhcfemakapbaaDoor.RjU
open Go Go.RowKit Go.Shelf Go.Sort Go.Proofs.YtakhcfemakapbaaDoor.Mem Go.Proofs.YtakhcfemakapbaaDoor.DuA Go.Proofs.YtakhcfemakapbaaDoor.DuM Go.Proofs.YtakhcfemakapbaaDoor.DuN Go.Proofs.YtakhcfemakapbaaDoor.NumA Go.Proofs.YtakhcfemakapbaaDoor.NumC Go.Proofs.YtakhcfemakapbaaDoor.NumE Go.Proofs.YtakhcfemakapbaaDoor.RkA Go.Proofs.YtakhcfemakapbaaDoor.RkC Go.Proofs.YtakhcfemakapbaaDoor.RkB Go.Proofs.YtakhcfemakapbaaDoor.RkE Go.Proofs.YtakhcfemakapbaaDoor.RkF Go.Proofs.YtakhcfemakapbaaDoor.RkH Go.Proofs.YtakhcfemakapbaaDoor.RkI Go.Proofs.YtakhcfemakapbaaDoor.RkL Go.Proofs.YtakhcfemakapbaaDoor.RkM Go.Proofs.YtakhcfemakapbaaDoor.RkN Go.Proofs.YtakhcfemakapbaaDoor.RkO Go.Proofs.YtakhcfemakapbaaDoor.RkP Go.Proofs.YtakhcfemakapbaaDoor.RkQ Go.Proofs.YtakhcfemakapbaaDoor.RkR Go.Proofs.YtakhcfemakapbaaDoor.RkS Go.Proofs.YtakhcfemakapbaaDoor.RkT Go.Proofs.YtakhcfemakapbaaDoor.RkU Go.Proofs.YtakhcfemakapbaaDoor.RkW Go.Proofs.YtakhcfemakapbaaDoor.RjJ Go.Proofs.YtakhcfemakapbaaDoor.RjK

theorem set_nil (k : ByteArray) (t : Int) (w : World) : Calls Tryd.prog 4 #[.pointer none, .string k, .int .i64 t] w fun e w' => e = .returned (.tuple #[.bool false, .int .i64 0]) ∧ w' = w := by
  go_enter Tryd.func4, Tryd.ntmps4
  go_wp2_with fail
  go_ret2
  exact ⟨rfl, rfl⟩
theorem score_nil (k : ByteArray) (w : World) : Calls Tryd.prog 5 #[.pointer none, .string k] w fun e w' => e = .returned (.tuple #[.int .i64 0, .bool false]) ∧ w' = w := by
  go_enter Tryd.func5, Tryd.ntmps5
  go_wp2_with fail
  go_ret2
  exact ⟨rfl, rfl⟩
theorem place_nil (k : ByteArray) (r : Bool) (w : World) : Calls Tryd.prog 6 #[.pointer none, .string k, .bool r] w fun e w' => e = .returned (.tuple #[.int .i64 0, .bool false]) ∧ w' = w := by
  go_enter Tryd.func6, Tryd.ntmps6
  go_wp2_with (go_at_call 5; refine (score_nil k w).mono ?_; rintro e w1 ⟨rfl, hw1⟩; subst w1)
  go_ret2
  exact ⟨rfl, rfl⟩
theorem drop_nil (k : ByteArray) (w : World) : Calls Tryd.prog 7 #[.pointer none, .string k] w fun e w' => e = .returned (.bool false) ∧ w' = w := by
  go_enter Tryd.func7, Tryd.ntmps7
  go_wp2_with (go_at_call 5; refine (score_nil k w).mono ?_; rintro e w1 ⟨rfl, hw1⟩; subst w1)
  go_ret
  exact ⟨rfl, rfl⟩
theorem len_nil (w : World) : Calls Tryd.prog 8 #[.pointer none] w fun e w' => e = .returned (.int .i64 0) ∧ w' = w := by
  go_enter Tryd.func8, Tryd.ntmps8
  go_wp2_with fail
  go_ret
  exact ⟨rfl, rfl⟩
theorem order_nil (r : Bool) (w : World) : Calls Tryd.prog 19 #[.pointer none, .bool r] w fun e w' => e = .returned (.slice none 0 0) ∧ w' = w := by
  go_enter Tryd.func19, Tryd.ntmps19
  go_wp2_with fail
  go_ret
  exact ⟨rfl, rfl⟩
theorem list_nil (w : World) : Calls Tryd.prog 9 #[.pointer none] w fun e w' => e = .returned (.slice none 0 0) ∧ w' = w := by
  go_enter Tryd.func9, Tryd.ntmps9
  go_wp2_with (go_at_call 19; refine (order_nil false w).mono ?_; rintro e w1 ⟨rfl, hw1⟩; subst w1)
  go_ret
  exact ⟨rfl, rfl⟩
theorem slice_nil (n : Int) (h0 : -9223372036854775808 ≤ n) (h1 : n ≤ 9223372036854775807) (w : World) : Calls Tryd.prog 10 #[.pointer none, .int .i64 0, .int .i64 n, .bool false] w fun e w' => e = .returned (.slice none 0 0) ∧ w' = w := by
  by_cases hn : n < 0
  · have hm : min n (-1) = n := by omega
    go_enter Tryd.func10, Tryd.ntmps10
    go_wp2_with (go_at_call 19; refine (order_nil false w).mono ?_; rintro e w1 ⟨rfl, hw1⟩; subst w1)
    go_ret
    exact ⟨rfl, rfl⟩
  · have hm : min n (-1) = -1 := by omega
    go_enter Tryd.func10, Tryd.ntmps10
    go_wp2_with (go_at_call 19; refine (order_nil false w).mono ?_; rintro e w1 ⟨rfl, hw1⟩; subst w1)
    go_ret
    exact ⟨rfl, rfl⟩
theorem nil_rd (w : World) : RdE w none 0 0 [] := Rd.nil w 2
theorem pop_nil (n : Int) (h0 : -9223372036854775808 ≤ n) (h1 : n ≤ 9223372036854775807) (w : World) : Calls Tryd.prog 11 #[.pointer none, .int .i64 n, .bool true] w fun e w' => ∃ A c, e = .returned (.slice A 0 c) ∧ Below w.heap.size w w' := by
  have hm : min (max n 0) 0 = 0 := by omega
  have hcl := fun w => cloneE_calls none 0 0 [] w (nil_rd w) (by decide)
  go_enter Tryd.func11, Tryd.ntmps11
  go_wp2_with (first
    | (go_at_call 19; refine (order_nil true w).mono ?_; rintro e w1 ⟨rfl, hw1⟩; subst w1)
    | (go_at_call 20; refine (hcl _).mono ?_; rintro e w2 ⟨v2, rfl, o2, b2⟩))
  go_loopw [22] (fun iv wr => iv = .int .i64 0 ∧ wr = w) (fun _ _ => 0)
  case atStart => exact ⟨rfl, rfl⟩
  case round =>
    obtain ⟨rfl, hw⟩ := hrel
    have hw2 := hw.symm
    clear hw
    subst hw2
    go_wp2_with (go_at_call 20; refine (hcl _).mono ?_; rintro e w2 ⟨v2, rfl, o2, b2⟩)
    go_ret
    obtain ⟨A, c, h⟩ := own_form o2
    exact ⟨A, c, by rw [h]; rfl, b2⟩
theorem part_nil (f : Value) (skip most : Int) (w : World) : Calls Tryd.prog 21 #[.slice none 0 0, f, .int .i64 skip, .int .i64 most] w fun e w' => e = .returned (.slice none 0 0) ∧ w' = w := by
  go_enter Tryd.func21, Tryd.ntmps21
  go_wp2_with fail
  go_loopw [9, 14] (fun ov iv wr => ov = .slice none 0 0 ∧ iv = .int .i64 0 ∧ wr = w) (fun _ _ _ => 0)
  case atStart => exact ⟨rfl, rfl, rfl⟩
  case round =>
    obtain ⟨rfl, rfl, hw⟩ := hrel
    have hw2 := hw.symm
    clear hw
    subst hw2
    go_wp2_with fail
    go_ret
    exact ⟨rfl, by trivial⟩
theorem scores_nil (a b : Bd) (rev : Bool) (skip most : Int) (w : World) : Calls Tryd.prog 12 #[.pointer none, bV a, bV b, .bool rev, .int .i64 skip, .int .i64 most] w fun e w' => e = .returned (.slice none 0 0) ∧ Below w.heap.size w w' := by
  obtain ⟨i1, o1, s1, n1⟩ := a
  obtain ⟨i2, o2, s2, n2⟩ := b
  have b2 : Below w.heap.size w ((w.alloc (bo ⟨i1, o1, s1, n1⟩)).alloc (bo ⟨i2, o2, s2, n2⟩)) := (al _ _).trans ((al _ _).mono (al _ _).size)
  have HB := Lib.hid b2
  clear b2
  go_enter Tryd.func12, Tryd.ntmps12
  go_wp2_with (first
    | (go_at_call 19; refine (order_nil rev _).mono ?_; rintro e w1 ⟨rfl, hw1⟩; subst w1)
    | (go_at_call 21; refine (part_nil _ skip most _).mono ?_; rintro e w1 ⟨rfl, hw1⟩; subst w1))
  go_ret
  exact ⟨rfl, HB.out⟩
theorem names_nil (a b : Bd) (rev : Bool) (skip most : Int) (w : World) : Calls Tryd.prog 13 #[.pointer none, bV a, bV b, .bool rev, .int .i64 skip, .int .i64 most] w fun e w' => e = .returned (.slice none 0 0) ∧ Below w.heap.size w w' := by
  obtain ⟨i1, o1, s1, n1⟩ := a
  obtain ⟨i2, o2, s2, n2⟩ := b
  have b2 : Below w.heap.size w ((w.alloc (bo ⟨i1, o1, s1, n1⟩)).alloc (bo ⟨i2, o2, s2, n2⟩)) := (al _ _).trans ((al _ _).mono (al _ _).size)
  have HB := Lib.hid b2
  clear b2
  go_enter Tryd.func13, Tryd.ntmps13
  go_wp2_with (first
    | (go_at_call 19; refine (order_nil rev _).mono ?_; rintro e w1 ⟨rfl, hw1⟩; subst w1)
    | (go_at_call 21; refine (part_nil _ skip most _).mono ?_; rintro e w1 ⟨rfl, hw1⟩; subst w1))
  go_ret
  exact ⟨rfl, HB.out⟩
set_option maxHeartbeats 1000000 in
theorem nobody_law (k : ByteArray) (n : Int) (w : World) (hk : k.size ≤ 1048576) (n0 : -9223372036854775808 ≤ n) (n1 : n ≤ 9223372036854775807) (hL : Laid w) :
    Calls Tryd.prog 3 #[.string k, .int .i64 n] w fun e w' => e = .returned (.bool true) ∧ Below w.heap.size w w' := by
  have HL := Lib.hid hL
  clear hL
  go_enter Tryd.func3, Tryd.ntmps3
  go_wp2_with (first
    | (go_at_call 4; refine (set_nil k n _).mono ?_; rintro e w2 ⟨rfl, rfl⟩)
    | (go_at_call 5; refine (score_nil k _).mono ?_; rintro e w2 ⟨rfl, rfl⟩)
    | (go_at_call 6; refine (place_nil k true _).mono ?_; rintro e w2 ⟨rfl, rfl⟩))
  have b2 := al w2 (bo ⟨-1, false, 0, ⟨#[]⟩⟩)
  have x2 := bx_new w2 ⟨-1, false, 0, ⟨#[]⟩⟩
  obtain ⟨W2, hW2⟩ : ∃ W2, W2 = w2.alloc (.cells #[.int .i64 (-1), .bool false, .int .i64 0, .string ⟨#[]⟩] 30) := ⟨_, rfl⟩
  change Below w2.heap.size w2 (w2.alloc (.cells #[.int .i64 (-1), .bool false, .int .i64 0, .string ⟨#[]⟩] 30)) at b2
  change Bxd (w2.alloc (.cells #[.int .i64 (-1), .bool false, .int .i64 0, .string ⟨#[]⟩] 30)) w2.heap.size ⟨-1, false, 0, ⟨#[]⟩⟩ at x2
  rw [← hW2] at b2 x2 ⊢
  have HX := Lib.hid (And.intro b2 x2)
  clear b2 x2 hW2
  refine (drop_nil k _).mono ?_
  rintro e w3 ⟨rfl, hw3⟩
  subst hw3
  go_wp2_with fail
  refine (len_nil _).mono ?_
  rintro e w4 ⟨rfl, hw4⟩
  subst hw4
  go_wp2_with fail
  refine (list_nil _).mono ?_
  rintro e w5 ⟨rfl, hw5⟩
  subst hw5
  go_wp2_with fail
  refine (slice_nil n n0 n1 _).mono ?_
  rintro e w6 ⟨rfl, hw6⟩
  subst hw6
  go_wp2_with fail
  refine (pop_nil n n0 n1 _).mono ?_
  rintro e w7 ⟨A7, c7, rfl, b7⟩
  have HB7 := Lib.hid (below_seq HX.out.1 b7)
  have x7 := HX.out.2.below b7
  have HX7 := Lib.hid x7
  obtain ⟨x0, x1, x2, x3⟩ := x7
  simp only at x0 x1 x2 x3
  clear b7
  go_wp2_with fail
  refine Calls.mono (scores_nil ⟨-1, false, 0, ⟨#[]⟩⟩ ⟨-1, false, 0, ⟨#[]⟩⟩ false 0 n _) ?_
  rintro e w8 ⟨rfl, b8⟩
  have HB8 := Lib.hid (below_seq HB7.out b8)
  have x8 := HX7.out.below b8
  clear x0 x1 x2 x3 b8
  obtain ⟨x0, x1, x2, x3⟩ := x8
  simp only at x0 x1 x2 x3
  go_wp2_with fail
  refine Calls.mono (names_nil ⟨-1, false, 0, ⟨#[]⟩⟩ ⟨-1, false, 0, ⟨#[]⟩⟩ true 0 n _) ?_
  rintro e w9 ⟨rfl, b9⟩
  have HB9 := Lib.hid (below_seq HB8.out b9)
  clear x0 x1 x2 x3 b9
  have h := sure_calls w9 (HL.out.below HB9.out)
  go_wp2_with fail
  refine Calls.mono h ?_
  clear h
  rintro e w10 ⟨rfl, b10⟩
  go_wp2_with fail
  go_ret
  exact ⟨rfl, below_seq HB9.out b10⟩
end Go.Proofs.YtakhcfemakapbaaDoor.RjU
