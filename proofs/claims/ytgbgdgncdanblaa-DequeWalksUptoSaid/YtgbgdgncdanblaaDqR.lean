/-
  The walk of DequeEnds, for lists of at most 1048576 numbers. Conditions: as stated.
-/
import Derived.Test.YtgbgdgncdanblaaDqI
import Derived.Test.YtgbgdgncdanblaaDqQ
set_option maxRecDepth 100000
set_option linter.unusedSimpArgs false
set_option linter.unusedVariables false
namespace Go.Proofs.Ytgbgdgncdanblaa.DqR
open Go.RowKit Go.Proofs.Ytgbgdgncdanblaa.Mem Go.Proofs.Ytgbgdgncdanblaa.DqA Go.Proofs.Ytgbgdgncdanblaa.DqB Go.Proofs.Ytgbgdgncdanblaa.DqD Go.Proofs.Ytgbgdgncdanblaa.DqF Go.Proofs.Ytgbgdgncdanblaa.DqI Go.Proofs.Ytgbgdgncdanblaa.DqO Go.Proofs.Ytgbgdgncdanblaa.DqP Go.Proofs.Ytgbgdgncdanblaa.DqQ

set_option maxHeartbeats 1000000 in
theorem ofN_calls (A : Option Addr) (n c : Nat) (l : List Int) (w : World) (hr : RdI w A n c l) (hn : n ≤ 17592186044416) :
    Calls Try.prog 10 #[.slice A n c] w fun e w' => ∃ g v, e = .returned (.pointer (some ⟨g, 0, none⟩)) ∧ Dqn w' w.heap.size g v l l.length ∧ Below w.heap.size w w' := by
  have hl : Hid (l.length = n) := by have := hr.len; rw [ints_len] at this; simpa [Hid] using this
  go_enter Try.func10, Try.ntmps10
  go_wp2_with fail
  refine (clone_calls A n c l _ hr (by omega)).mono ?_
  rintro e w1 ⟨v', rfl, ho, hb⟩
  obtain ⟨A', c', rfl⟩ := own_form ho
  go_wp2_with fail
  go_ret
  refine ⟨_, _, rfl, ⟨l, 0, ⟨heap_alloc_new w1 _, hb.size, ho.alloc _, Nat.zero_le _, ?_⟩, rfl, Nat.le_refl _⟩, hb.alloc hb.size _⟩
  intro h
  have := ho.lt _ h
  omega

/-- What a walk carries: the deque at g holds l in a store of N at most; what was there at W is as it was. -/
structure Sd (W w : World) (g : Nat) (v : Value) (l : List Int) (N : Nat) : Prop where
  dq : Dqn w W.heap.size g v l N
  bel : Below W.heap.size W w
section
variable {W w w' : World} {g N : Nat} {v : Value} {l : List Int}
theorem Sd.below (h : Sd W w g v l N) (hb : Below w.heap.size w w') : Sd W w' g v l N := ⟨h.dq.below hb, below_new h.bel hb⟩
theorem Sd.drawn (h : Sd W w g v l N) (m : Nat) : Sd W (w.drewN m) g v l N := ⟨h.dq.drawn m, below_drawn h.bel m⟩
theorem Sd.turns {N' : Nat} {l' : List Int} (h : Sd W w g v l N) (ht : Turns W.heap.size g v l' N' w w') : ∃ v', Sd W w' g v' l' N' := by
  obtain ⟨v', hd, ho, _⟩ := ht
  exact ⟨v', hd, ho.after h.bel (Nat.le_refl _) (fun b e => by
    rcases e with rfl | e
    · exact h.dq.ge
    · exact (h.dq.olt b e).1)⟩
theorem Sd.size (h : Sd W w g v l N) : W.heap.size ≤ w.heap.size := h.bel.size
/-- A slice that was there at W lies apart. -/
theorem Sd.sep {A : Option Addr} {n c : Nat} {k : List Int} (h : Sd W w g v l N) (hr : RdI W A n c k) (hn : n ≠ 0) : ∀ ad, A = some ad → ad.block ≠ g ∧ v.ownBlock ≠ some ad.block := fun ad e => by
  obtain ⟨ad', e', hlt⟩ := hr.lt (by intro e; have := hr.len; rw [e] at this; simp at this; omega)
  rw [e] at e'; injection e' with e'; subst e'
  exact ⟨fun e => by have := h.dq.ge; omega, fun e => by have := (h.dq.olt _ e).1; omega⟩
end

theorem pop_all (n : Nat) (m : Int) (h : (n : Int) ≤ m) : popN n m = n := by unfold popN; omega
theorem pop_len (n m : Nat) (h : m ≤ n) : popN n (m : Int) = m := by unfold popN; omega

set_option maxHeartbeats 2000000 in
theorem ends_calls (A1 : Option Addr) (n1 c1 : Nat) (f : List Int) (A2 : Option Addr) (n2 c2 : Nat) (l : List Int) (W : World) (h1 : RdI W A1 n1 c1 f) (b1 : n1 ≤ 1048576) (h2 : RdI W A2 n2 c2 l) (b2 : n2 ≤ 1048576) :
    Calls Try.prog 5 #[.slice A1 n1 c1, .slice A2 n2 c2] W fun e w' => e = .returned (.bool true) ∧ Below W.heap.size W w' := by
  obtain rfl := rdi_len h1
  obtain rfl := rdi_len h2
  go_enter Try.func5, Try.ntmps5
  go_wp2_with fail
  refine (ofN_calls A1 _ c1 f _ h1 (by omega)).mono ?_
  rintro e w1 ⟨g, v1, rfl, hd, hb⟩
  have S1 : Sd W w1 g v1 f f.length := ⟨hd, hb⟩
  clear hd hb
  go_wp2_with fail
  refine (awake_calls w1).mono ?_
  rintro e w2 ⟨rfl, hb⟩
  have S2 := S1.below hb
  clear hb S1
  go_wp2_with fail
  refine (pushFront_calls W.heap.size g _ (l.length + f.length + f.length) v1 f A2 _ c2 l w2 S2.dq (h2.below S2.bel) (by omega) (by omega) (by omega) S2.size (S2.sep h2)).mono ?_
  rintro e w3 ⟨rfl, ht⟩
  obtain ⟨v3, S3⟩ := S2.turns ht
  clear ht S2
  go_wp2_with fail
  refine (popFront_calls W.heap.size g _ v3 _ l.length w3 S3.dq (by omega) (by omega) (by omega)).mono ?_
  rintro e w4 ⟨s4, rfl, ho4, ht⟩
  rw [pop_len _ _ (by simp)] at ho4 ht
  rw [show (l.reverse ++ f).take l.length = l.reverse by rw [List.take_append_of_le_length (by simp), List.take_of_length_le (by simp)]] at ho4
  rw [show (l.reverse ++ f).drop l.length = f by rw [List.drop_append_of_le_length (by simp), List.drop_eq_nil_of_le (by simp)]; rfl] at ht
  obtain ⟨v4, S4⟩ := S3.turns ht
  obtain ⟨A4, c4, rfl⟩ := own_form ho4
  have R4 := Rd.of_own ho4
  rw [List.length_reverse] at R4
  clear ht S3 ho4
  go_wp2_with fail
  refine (turned_calls A2 _ c2 l _ (h2.below S4.bel) (by omega)).mono ?_
  rintro e w5 ⟨s5, rfl, ho5, hb⟩
  have S5 := S4.below hb
  have R4' := R4.below hb
  obtain ⟨A5, c5, rfl⟩ := own_form ho5
  have R5 := Rd.of_own ho5
  rw [List.length_reverse] at R5
  clear hb S4 R4 ho5
  go_wp2_with fail
  refine (same_calls A4 A5 _ _ c4 c5 l.reverse l.reverse _ R4' R5).mono ?_
  rintro e w6 ⟨rfl, nd6, rfl⟩
  have S6 := S5.drawn nd6
  clear S5 R4' R5
  generalize w5.drewN nd6 = w6 at S6 ⊢
  go_wp2_with fail
  refine (list_calls _ g v4 f _ (S6.dq.dq (by omega))).mono ?_
  rintro e w7 ⟨s7, rfl, ho7, hb⟩
  have S7 := S6.below hb
  obtain ⟨A7, c7, rfl⟩ := own_form ho7
  have R7 := Rd.of_own ho7
  clear hb S6 ho7
  go_wp2_with fail
  refine (same_calls A7 A1 _ _ c7 c1 f f _ R7 (h1.below S7.bel)).mono ?_
  rintro e w8 ⟨rfl, nd8, rfl⟩
  have S8 := S7.drawn nd8
  clear S7 R7
  generalize w7.drewN nd8 = w8 at S8 ⊢
  go_wp2_with fail
  refine (pushBack_calls W.heap.size g _ v4 f A2 _ c2 l w8 S8.dq (h2.below S8.bel) (by omega) S8.size).mono ?_
  rintro e w9 ⟨rfl, ht⟩
  obtain ⟨v9, S9⟩ := S8.turns ht
  clear ht S8
  go_wp2_with fail
  refine (popBack_calls W.heap.size g _ v9 _ l.length w9 S9.dq (by omega) (by omega) (by omega)).mono ?_
  rintro e w10 ⟨s10, rfl, ho10, ht⟩
  rw [pop_len _ _ (by simp), List.length_append, Nat.add_sub_cancel] at ho10 ht
  rw [show (f ++ l).drop f.length = l by simp] at ho10
  rw [show (f ++ l).take f.length = f by simp] at ht
  obtain ⟨v10, S10⟩ := S9.turns ht
  obtain ⟨A10, c10, rfl⟩ := own_form ho10
  have R10 := Rd.of_own ho10
  rw [List.length_reverse] at R10
  clear ht S9 ho10
  go_wp2_with fail
  refine (turned_calls A2 _ c2 l _ (h2.below S10.bel) (by omega)).mono ?_
  rintro e w11 ⟨s11, rfl, ho11, hb⟩
  have S11 := S10.below hb
  have R10' := R10.below hb
  obtain ⟨A11, c11, rfl⟩ := own_form ho11
  have R11 := Rd.of_own ho11
  rw [List.length_reverse] at R11
  clear hb S10 R10 ho11
  go_wp2_with fail
  refine (same_calls A10 A11 _ _ c10 c11 l.reverse l.reverse _ R10' R11).mono ?_
  rintro e w12 ⟨rfl, nd12, rfl⟩
  have S12 := S11.drawn nd12
  clear S11 R10' R11
  generalize w11.drewN nd12 = w12 at S12 ⊢
  go_wp2_with fail
  refine (list_calls _ g v10 f _ (S12.dq.dq (by omega))).mono ?_
  rintro e w13 ⟨s13, rfl, ho13, hb⟩
  have S13 := S12.below hb
  obtain ⟨A13, c13, rfl⟩ := own_form ho13
  have R13 := Rd.of_own ho13
  clear hb S12 ho13
  go_wp2_with fail
  refine (same_calls A13 A1 _ _ c13 c1 f f _ R13 (h1.below S13.bel)).mono ?_
  rintro e w14 ⟨rfl, nd14, rfl⟩
  have S14 := S13.drawn nd14
  clear S13 R13
  generalize w13.drewN nd14 = w14 at S14 ⊢
  go_wp2_with fail
  refine (pushBack_calls W.heap.size g _ v10 f A2 _ c2 l w14 S14.dq (h2.below S14.bel) (by omega) S14.size).mono ?_
  rintro e w15 ⟨rfl, ht⟩
  obtain ⟨v15, S15⟩ := S14.turns ht
  clear ht S14
  go_wp2_with fail
  refine (popFront_calls W.heap.size g _ v15 _ f.length w15 S15.dq (by omega) (by omega) (by omega)).mono ?_
  rintro e w16 ⟨s16, rfl, ho16, ht⟩
  rw [pop_len _ _ (by simp)] at ho16 ht
  rw [show (f ++ l).take f.length = f by simp] at ho16
  rw [show (f ++ l).drop f.length = l by simp] at ht
  obtain ⟨v16, S16⟩ := S15.turns ht
  obtain ⟨A16, c16, rfl⟩ := own_form ho16
  have R16 := Rd.of_own ho16
  clear ht S15 ho16
  go_wp2_with fail
  refine (same_calls A16 A1 _ _ c16 c1 f f _ R16 (h1.below S16.bel)).mono ?_
  rintro e w17 ⟨rfl, nd17, rfl⟩
  have S17 := S16.drawn nd17
  clear S16 R16
  generalize w16.drewN nd17 = w17 at S17 ⊢
  go_wp2_with fail
  refine (popFront_calls W.heap.size g _ v16 l 1099511627776 w17 S17.dq (by omega) (by decide) (by decide)).mono ?_
  rintro e w18 ⟨s18, rfl, ho18, ht⟩
  rw [pop_all _ _ (by omega)] at ho18 ht
  rw [List.take_length] at ho18
  rw [List.drop_length] at ht
  obtain ⟨v18, S18⟩ := S17.turns ht
  obtain ⟨A18, c18, rfl⟩ := own_form ho18
  have R18 := Rd.of_own ho18
  clear ht S17 ho18
  go_wp2_with fail
  refine (same_calls A18 A2 _ _ c18 c2 l l _ R18 (h2.below S18.bel)).mono ?_
  rintro e w19 ⟨rfl, nd19, rfl⟩
  have S19 := S18.drawn nd19
  clear S18 R18
  generalize w18.drewN nd19 = w19 at S19 ⊢
  go_wp2_with fail
  refine (len_calls _ g v18 [] _ (S19.dq.dq (by omega))).mono ?_
  rintro e w20 ⟨rfl, nd20, rfl⟩
  have S20 := S19.drawn nd20
  clear S19
  generalize w19.drewN nd20 = w20 at S20 ⊢
  go_wp2_with fail
  refine (popBack_calls W.heap.size g _ v18 [] 3 w20 S20.dq (by omega) (by decide) (by decide)).mono ?_
  rintro e w21 ⟨s21, rfl, ho21, ht⟩
  rw [show (([] : List Int).drop (([] : List Int).length - popN ([] : List Int).length 3)).reverse = [] by simp] at ho21
  rw [show (([] : List Int).take (([] : List Int).length - popN ([] : List Int).length 3)) = [] by simp] at ht
  obtain ⟨v21, S21⟩ := S20.turns ht
  obtain ⟨A21, c21, rfl⟩ := own_form ho21
  clear ht S20 ho21
  go_wp2_with fail
  refine (popFront_calls W.heap.size g _ v21 [] (-3) w21 S21.dq (by omega) (by decide) (by decide)).mono ?_
  rintro e w22 ⟨s22, rfl, ho22, ht⟩
  rw [show (([] : List Int).take (popN ([] : List Int).length (-3))) = [] by simp] at ho22
  obtain ⟨v22, S22⟩ := S21.turns ht
  obtain ⟨A22, c22, rfl⟩ := own_form ho22
  clear ht S21 ho22
  go_wp2_with fail
  go_ret
  exact ⟨rfl, S22.bel⟩
end Go.Proofs.Ytgbgdgncdanblaa.DqR
