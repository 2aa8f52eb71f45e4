/-
  The walk of DequePieces. Conditions: as stated.
-/
import Derived.Test.YtgbgdgncdanblaaDqI
import Derived.Test.YtgbgdgncdanblaaDqJ
import Derived.Test.YtgbgdgncdanblaaDqK
import Derived.Deep.RegionHeld3
set_option maxRecDepth 100000
set_option linter.unusedSimpArgs false
set_option linter.unusedVariables false
namespace Go.Proofs.Ytgbgdgncdanblaa.DqL
open Go.RowKit Go.Proofs.Ytgbgdgncdanblaa.Mem Go.Proofs.Ytgbgdgncdanblaa.DqA Go.Proofs.Ytgbgdgncdanblaa.DqB Go.Proofs.Ytgbgdgncdanblaa.DqC Go.Proofs.Ytgbgdgncdanblaa.DqD Go.Proofs.Ytgbgdgncdanblaa.DqI Go.Proofs.Ytgbgdgncdanblaa.DqJ Go.Proofs.Ytgbgdgncdanblaa.DqK

/-- What a law's walk carries: the deque at g holds l, the argument reads as k, what was there at W is as it was. -/
structure St (W w : World) (g : Nat) (v : Value) (l : List Int) (A : Option Addr) (n c : Nat) (k : List Int) : Prop where
  dq : Dq w W.heap.size g v l
  rd : RdI w A n c k
  bel : Below W.heap.size W w

section
variable {W w w' : World} {g : Nat} {v : Value} {l k : List Int} {A : Option Addr} {n c : Nat}
theorem St.below (h : St W w g v l A n c k) (hb : Below w.heap.size w w') : St W w' g v l A n c k := ⟨dq_below h.dq hb, h.rd.below hb, below_new h.bel hb⟩
theorem St.drawn (h : St W w g v l A n c k) (m : Nat) : St W (w.drewN m) g v l A n c k := ⟨h.dq.drawn m, h.rd.drawn m, below_drawn h.bel m⟩
theorem St.alloc (h : St W w g v l A n c k) (o : Obj) : St W (w.alloc o) g v l A n c k := h.below ((Below.refl _ _).alloc (Nat.le_refl _) o)
theorem St.start (hr : RdI W A n c k) (hd : Dq w W.heap.size g v l) (hb : Below W.heap.size W w) : St W w g v l A n c k := ⟨hd, hr.below hb, hb⟩
end

theorem St.left {W w w' : World} {g : Nat} {v : Value} {l k l' : List Int} {A : Option Addr} {n c : Nat} (h : St W w g v l A n c k) (hr : RdI W A n c k)
    (hl : DqJ.Left W.heap.size g l' w w') : ∃ v', St W w' g v' l' A n c k := by
  obtain ⟨v', hd, ho, _⟩ := hl
  exact ⟨v', St.start hr hd (ho.after h.bel (Nat.le_refl _) (fun b e => by subst e; exact dq_ge h.dq))⟩

theorem rd_drew {w : World} {A : Option Addr} {n c : Nat} {k : List Int} (h : RdI w A n c k) : RdI w.drew A n c k := ⟨h.len, h.cap, h.big, h.get⟩
theorem St.drew {W w : World} {g : Nat} {v : Value} {l k : List Int} {A : Option Addr} {n c : Nat} (h : St W w g v l A n c k) : St W w.drew g v l A n c k := h.below ((Below.refl _ _).drew)

theorem cell_below {w w' : World} {q : Addr} {u : Value} (hc : w.cell? q = some u) (hb : Below w.heap.size w w') : w'.cell? q = some u := by
  have hlt : q.block < w.heap.size := by
    rcases Nat.lt_or_ge q.block w.heap.size with hlt | hge
    · exact hlt
    · simp [World.cell?, Array.getElem?_eq_none hge] at hc
  exact (Only.of_below hb).cell hc (by omega)

section
variable {W w w' : World} {g : Nat} {v : Value} {l k : List Int} {A : Option Addr} {n c : Nat} {q : Addr} {u : Value}
theorem held_below (h : St W w g v l A n c k ∧ w.cell? q = some u) (hb : Below w.heap.size w w') : St W w' g v l A n c k ∧ w'.cell? q = some u := ⟨h.1.below hb, cell_below h.2 hb⟩
theorem held_alloc (h : St W w g v l A n c k ∧ w.cell? q = some u) (o : Obj) : St W (w.alloc o) g v l A n c k ∧ (w.alloc o).cell? q = some u := held_below h ((Below.refl _ _).alloc (Nat.le_refl _) o)
theorem held_drew (h : St W w g v l A n c k ∧ w.cell? q = some u) : St W w.drew g v l A n c k ∧ w.drew.cell? q = some u := held_below h ((Below.refl _ _).drew)
theorem held_drawn (h : St W w g v l A n c k ∧ w.cell? q = some u) (m : Nat) : St W (w.drewN m) g v l A n c k ∧ (w.drewN m).cell? q = some u := held_below h (below_drawn (Below.refl _ _) m)
end

theorem piece_same (l : List Int) (k : Nat) (x : Int) (h : l[k]? = some x) : pieceL l k k = [x] := by
  obtain ⟨h1, h2⟩ := List.getElem?_eq_some_iff.1 h
  rw [piece_one _ _ h1, h2]

theorem piece_join (l : List Int) (k : Nat) (h : k < l.length) : pieceL l 0 k ++ pieceL l ((k : Int) + 1) (-1) = l := by
  by_cases h1 : k + 1 < l.length
  · exact piece_both l k h1
  · rw [show (k : Int) + 1 = (l.length : Int) by omega, piece_past, piece_head l k h, List.take_of_length_le (by omega)]; simp

set_option maxHeartbeats 20000000 in
theorem pieces_calls (A : Option Addr) (n c : Nat) (l : List Int) (at_ : Int) (W : World) (hr : RdI W A n c l) (hn : n < 17592186044416)
    (f1 : -9223372036854775808 ≤ at_) (f2 : at_ ≤ 9223372036854775807) :
    Calls Try.prog 4 #[.slice A n c, .int .i64 at_] W fun e w' => e = .returned (.bool true) ∧ Below W.heap.size W w' := by
  obtain rfl := rdi_len hr
  have hn := Nat.le_of_lt hn
  go_enter Try.func4, Try.ntmps4
  go_wp2_with fail
  refine (of_calls A _ c l _ hr hn).mono ?_
  rintro e w1 ⟨g, v, rfl, hd, hb⟩
  have S1 : St W w1 g v l A _ c l := St.start hr hd hb
  clear hd hb
  go_wp2_with fail
  refine (awake_calls w1).mono ?_
  rintro e w2 ⟨rfl, hb⟩
  have S2 := S1.below hb
  clear hb
  go_wp2_with fail
  refine (slice_calls _ g v l 0 (-1) _ S2.dq (by decide) (by decide) (by decide) (by decide)).mono ?_
  rintro e w3 ⟨s3, rfl, ho3, hb⟩
  rw [piece_all] at ho3
  have S3 := S2.below hb
  clear hb
  obtain ⟨A3, c3, rfl⟩ := own_form ho3
  go_wp2_with fail
  refine (same_calls A3 A l.length l.length c3 c l l _ (Rd.of_own ho3) S3.rd).mono ?_
  rintro e w4 ⟨rfl, nd4, rfl⟩
  have S4 := S3.drawn nd4
  go_wp2_with fail
  refine (list_calls _ g v l _ S4.dq).mono ?_
  rintro e w5 ⟨s5, rfl, ho5, hb⟩
  have S5 := S4.below hb
  clear hb
  obtain ⟨A5, c5, rfl⟩ := own_form ho5
  go_wp2_with fail
  refine (same_calls A5 A l.length l.length c5 c l l _ (Rd.of_own ho5) S5.rd).mono ?_
  rintro e w6 ⟨rfl, nd6, rfl⟩
  have S6 := S5.drawn nd6
  go_wp2_with fail
  refine (slice_calls _ g v l l.length 1099511627776 _ S6.dq (by omega) (by omega) (by decide) (by decide)).mono ?_
  rintro e w7 ⟨s7, rfl, ho7, hb⟩
  rw [piece_past] at ho7
  have S7 := S6.below hb
  clear hb
  obtain ⟨A7, c7, rfl⟩ := own_form ho7
  go_wp2_with fail
  refine (slice_calls _ g v l (-9223372036854775808) (-9223372036854775808) _ S7.dq (by decide) (by decide) (by decide) (by decide)).mono ?_
  rintro e w8 ⟨s8, rfl, ho8, hb⟩
  rw [piece_min _ hn] at ho8
  have S8 := S7.below hb
  clear hb
  obtain ⟨A8, c8, rfl⟩ := own_form ho8
  by_cases hz : l.length = 0
  · have hz' : (l.length : Int) = 0 := by omega
    go_wp2_with fail
    go_ret
    exact ⟨rfl, S8.bel⟩
  by_cases hneg : at_ < 0
  · go_wp2_with fail
    go_ret
    exact ⟨rfl, S8.bel⟩
  obtain ⟨k, hk, hkl⟩ : ∃ k : Nat, at_.tmod l.length = k ∧ k < l.length := ⟨(at_.tmod l.length).toNat, by
    have := Int.tmod_nonneg (l.length : Int) (a := at_) (by omega); omega, by
    have := Int.tmod_lt_of_pos at_ (b := (l.length : Int)) (by omega); omega⟩
  have hz2 : ((l.length : Int) == 0) = false := beq_eq_false_iff_ne.2 (by omega)
  go_wp2_with fail
  refine (slice_calls _ g v l 0 k _ S8.dq (by decide) (by decide) (by omega) (by omega)).mono ?_
  rintro e w9 ⟨s9, rfl, ho9, hb⟩
  have S9 := S8.below hb
  have hb9 := hb
  clear hb
  have hj := piece_join l k hkl
  generalize pieceL l 0 k = P1 at hj ho9
  obtain ⟨A9, c9, rfl⟩ := own_form ho9
  have hP : P1.length ≤ l.length := by rw [← hj]; simp
  have HJ := Lib.hid hj
  clear hj
  go_wp2_with fail
  refine (slice_calls _ g v l ((k : Int) + 1) (-1) _ S9.dq (by omega) (by omega) (by decide) (by decide)).mono ?_
  rintro e w10 ⟨s10, rfl, ho10, hb⟩
  have S10 := S9.below hb
  have hr9 := (Rd.of_own ho9).below hb
  clear hb
  have hj := HJ.out
  generalize pieceL l ((k : Int) + 1) (-1) = P2 at hj ho10
  obtain ⟨A10, c10, rfl⟩ := own_form ho10
  have hP2 : P1.length + P2.length = l.length := by rw [← hj]; simp
  have HP2 := Lib.hid hP2
  have HJ2 := Lib.hid hj
  clear hj hP2
  go_wp2_with fail
  refine (joined_calls A9 A10 P1.length P2.length c9 c10 P1 P2 _ hr9 (Rd.of_own ho10) (by have := HP2.out; omega)).mono ?_
  rintro e w11 ⟨s11, rfl, ho11, hb⟩
  have S11 := S10.below hb
  clear hb
  rw [HJ2.out] at ho11
  obtain ⟨A11, c11, rfl⟩ := own_form ho11
  go_wp2_with fail
  refine (same_calls A11 A l.length l.length c11 c l l _ (Rd.of_own ho11) S11.rd).mono ?_
  rintro e w12 ⟨rfl, nd12, rfl⟩
  have S12 := S11.drawn nd12
  generalize w11.drewN nd12 = w12 at S12 ⊢
  go_wp2_with fail
  refine (at_calls _ g v l ((k : Int) - l.length) _ S12.dq (by omega) (by omega)).mono ?_
  rintro e w13 ⟨x1, b1, rfl, hb1, hx1, nd13, rfl⟩
  obtain ⟨y, hy⟩ : ∃ y, l[k]? = some y := ⟨_, List.getElem?_eq_getElem hkl⟩
  rw [place_back _ _ hkl] at hb1 hx1
  obtain rfl : b1 = true := by rw [hb1]; rfl
  obtain rfl : x1 = y := by rw [hx1]; simp [hy]
  clear hb1 hx1
  have Hy := Lib.hid hy
  clear hy
  have S13 := S12.drawn nd13
  generalize w12.drewN nd13 = w13 at S13 ⊢
  go_wp2_with fail
  refine (at_calls _ g v l k _ S13.dq (by omega) (by omega)).mono ?_
  rintro e w14 ⟨x2, b2, rfl, hb2, hx2, nd14, rfl⟩
  rw [place_at _ _ hkl] at hb2 hx2
  obtain rfl : b2 = true := by rw [hb2]; rfl
  obtain rfl : x2 = x1 := by rw [hx2]; simp [Hy.out]
  clear hb2 hx2
  have S14 := S13.drawn nd14
  generalize w13.drewN nd14 = w14 at S14 ⊢
  obtain ⟨p, rfl, cp⟩ := S14.rd.get k (.int .i64 x2) (by simp [ints, Hy.out])
  go_wp2_with fail
  have hkb0 : (0 : Int) ≤ (k : Int) := Int.natCast_nonneg _
  have hkb1 : (k : Int) < (l.length : Int) := by omega
  clear ho3 ho5 ho7 ho8 ho9 ho10 ho11 S1 S2 S3 S4 S5 S6 S7 S8 S9 S10 S11 S12 S13 hb9 hr9
  go_region_held3 (fun w' => St W w' g v l (some p) l.length c l ∧ w'.cell? (p.add k) = some (.int .i64 x2))
    (first
      | exact held_drew ⟨S14, cp⟩
      | exact held_below (by assumption) (by assumption)
      | exact held_alloc (by assumption) _
      | exact held_drawn (by assumption) _)
    (first
      | (go_at_call 18; refine (slice_calls _ g v l k k _ (St.dq (And.left (‹St W _ g v l (some p) l.length c l ∧ _›))) (by omega) (by omega) (by omega) (by omega)).mono ?_; rintro e w15 ⟨s15, rfl, ho15, hb15⟩; rw [piece_same _ _ _ Hy.out] at ho15; obtain ⟨A15, c15, rfl⟩ := own_form ho15)
      | (go_at_call 13; refine (same_calls _ _ 1 1 _ 1 [x2] [x2] _ (by first | exact Rd.of_own ho15 | exact Rd.of_own (ho15.alloc _)) (by first | exact rd_lit _ #[.int .i64 x2] [x2] 1 rfl rfl (by decide) | exact (rd_drew (rd_lit _ #[.int .i64 x2] [x2] 1 rfl rfl (by decide))).below hb15)).mono ?_; rintro e w16 ⟨rfl, nd16, rfl⟩))
  all_goals (
    have S16 := And.left (‹St W _ g v l (some p) l.length c l ∧ _›)
    clear S14 cp Hy HJ HJ2 HP2
    go_wp2_with fail
    refine (trim_calls _ g v l k 9223372036854775807 _ S16.dq (by omega) (by omega) (by decide) (by decide)).mono ?_
    rintro e w17 ⟨rfl, hL⟩
    rw [piece_rest l k hkl hn] at hL
    obtain ⟨v', S17⟩ := S16.left hr hL
    clear S16 hL
    go_wp2_with fail
    have hck : ¬ c = k := by have := hr.cap; omega
    have hkb2 : (k : Int) ≤ (l.length : Int) := by omega
    have hkb3 : (l.length : Int) ≤ (c : Int) := by have := hr.cap; omega
    have hkb4 : (k : Int) ≤ (c : Int) := by omega
    go_region_held3 (fun w' => St W w' g v' (l.drop k) (some p) l.length c l)
      (first
        | exact S17.drew
        | assumption
        | exact St.below (by assumption) (by assumption)
        | exact St.drawn (by assumption) _)
      (first
        | (go_at_call 16; refine (list_calls _ g v' (l.drop k) _ (St.dq (‹St W _ g v' (l.drop k) (some p) l.length c l›))).mono ?_; rintro e w18 ⟨s18, rfl, ho18, hb18⟩; obtain ⟨A18, c18, rfl⟩ := own_form ho18; have hr18 := Rd.of_own ho18; rw [List.length_drop] at hr18)
        | (go_at_call 13; refine (same_calls _ _ _ _ _ _ (l.drop k) (l.drop k) _ hr18 (by have hh := rd_drop (St.rd (‹St W _ g v' (l.drop k) (some p) l.length c l›)) (Nat.le_of_lt hkl); rw [if_neg hck] at hh; exact hh)).mono ?_; rintro e w19 ⟨rfl, nd19, rfl⟩))
    all_goals (
      have hb := St.bel (‹St W _ g v' (l.drop k) (some p) l.length c l›)
      go_wp2
      go_ret
      exact ⟨rfl, hb⟩))
end Go.Proofs.Ytgbgdgncdanblaa.DqL
