/-
  The walk of DequeFinds. Conditions: as stated.
-/
import Derived.Test.YtgbgdgncdanblaaDqI
import Derived.Test.YtgbgdgncdanblaaDqH
import Derived.Test.YtgbgdgncdanblaaDqL
import Derived.Test.YtgbgdgncdanblaaDqM
set_option maxRecDepth 100000
set_option linter.unusedSimpArgs false
set_option linter.unusedVariables false
namespace Go.Proofs.Ytgbgdgncdanblaa.DqN
open Go.RowKit Go.Proofs.Ytgbgdgncdanblaa.Mem Go.Proofs.Ytgbgdgncdanblaa.DqA Go.Proofs.Ytgbgdgncdanblaa.DqB Go.Proofs.Ytgbgdgncdanblaa.DqC Go.Proofs.Ytgbgdgncdanblaa.DqD Go.Proofs.Ytgbgdgncdanblaa.DqE Go.Proofs.Ytgbgdgncdanblaa.DqF Go.Proofs.Ytgbgdgncdanblaa.DqH Go.Proofs.Ytgbgdgncdanblaa.DqI Go.Proofs.Ytgbgdgncdanblaa.DqL Go.Proofs.Ytgbgdgncdanblaa.DqM

theorem own_keep {w w' : World} {B : Nat} {v : Value} {R : List Int} (ho : OwnI w B v R) (hb : Below w.heap.size w w') : OwnI w' B v R :=
  own_only ho (Only.of_below hb) (fun k hk => by have := (ho.lt k hk).2; omega)

set_option maxHeartbeats 2000000 in
theorem finds_calls (A : Option Addr) (n c : Nat) (l : List Int) (x : Int) (W : World) (hr : RdI W A n c l) (hn : n < 17592186044416)
    (f1 : -9223372036854775808 ≤ x) (f2 : x ≤ 9223372036854775807) :
    Calls Try.prog 3 #[.slice A n c, .int .i64 x] W fun e w' => e = .returned (.bool true) ∧ Below W.heap.size W w' := by
  obtain rfl := rdi_len hr
  go_enter Try.func3, Try.ntmps3
  go_wp2_with fail
  refine (of_calls A _ c l _ hr (by omega)).mono ?_
  rintro e w1 ⟨g, v, rfl, hd, hb⟩
  have S1 : St W w1 g v l A _ c l := St.start hr hd hb
  clear hd hb
  go_wp2_with fail
  refine (awake_calls w1).mono ?_
  rintro e w2 ⟨rfl, hb⟩
  have S2 := S1.below hb
  clear hb S1
  have hF0 := occ_len l x l.length l.length 0 (by omega)
  obtain ⟨F, hF⟩ : ∃ F, F = occB l x 0 l.length := ⟨_, rfl⟩
  rw [← hF] at hF0
  have HF := Lib.hid hF
  clear hF
  go_wp2_with fail
  refine (find_calls _ g v l x 1 0 0 _ S2.dq (by decide) (by decide)).mono ?_
  rintro e w3 ⟨s3, rfl, ho3, hb⟩
  rw [find_all, ← HF.out] at ho3
  have S3 := S2.below hb
  clear hb S2
  obtain ⟨A3, c3, rfl⟩ := own_form ho3
  have R3 := Rd.of_own ho3
  clear ho3
  go_wp2_with fail
  refine (find_calls _ g v l x (-1) 0 0 _ S3.dq (by decide) (by decide)).mono ?_
  rintro e w4 ⟨s4, rfl, ho4, hb⟩
  rw [find_back, ← HF.out] at ho4
  have S4 := S3.below hb
  have R4 := R3.below hb
  clear hb S3 R3
  obtain ⟨A4, c4, rfl⟩ := own_form ho4
  have Q4 := Rd.of_own ho4
  rw [List.length_reverse] at Q4
  go_wp2_with fail
  refine (turned_calls A4 _ c4 F.reverse _ Q4 (by omega)).mono ?_
  rintro e w5 ⟨s5, rfl, ho5, hb⟩
  rw [List.reverse_reverse] at ho5
  have S5 := S4.below hb
  have R5 := R4.below hb
  clear hb S4 R4 ho4
  obtain ⟨A5, c5, rfl⟩ := own_form ho5
  go_wp2_with fail
  refine (same_calls A3 A5 F.length F.length c3 c5 F F _ R5 (Rd.of_own ho5)).mono ?_
  rintro e w6 ⟨rfl, nd6, rfl⟩
  have S6 := S5.drawn nd6
  have R6 := R5.drawn nd6
  clear S5 R5 ho5
  generalize w5.drewN nd6 = w6 at S6 R6 ⊢
  go_wp2_with fail
  refine (find_calls _ g v l x 0 0 0 _ S6.dq (by decide) (by decide)).mono ?_
  rintro e w7 ⟨s7, rfl, ho7, hb⟩
  rw [find_zero] at ho7
  have S7 := S6.below hb
  have R7 := R6.below hb
  clear hb S6 R6
  obtain ⟨A7, c7, rfl⟩ := own_form ho7
  clear ho7
  go_wp2_with fail
  refine (find_calls _ g v l x (-9223372036854775808) 0 0 _ S7.dq (by decide) (by decide)).mono ?_
  rintro e w8 ⟨s8, rfl, ho8, hb⟩
  rw [find_min] at ho8
  have S8 := S7.below hb
  have R8 := R7.below hb
  clear hb S7 R7
  obtain ⟨A8, c8, rfl⟩ := own_form ho8
  clear ho8
  go_wp2_with fail
  go_loopw [8, 9, 10] (fun at_ o i wr => ∃ (k : Nat), k ≤ l.length ∧ at_ = .int .i64 ((occB l x 0 k).length : Nat) ∧ i = .int .i64 k ∧ OwnI wr w8.heap.size o ((l.take k).filter (fun y => y != x)) ∧ Below w8.heap.size w8 wr) (fun _ _ i _ => l.length - (intOf i).toNat)
  case atStart => exact ⟨0, Nat.zero_le _, by rw [occ_end (by omega)]; rfl, rfl, World.ownsRow_nil _ _ _ _, ⟨rfl, rfl, rfl, Nat.le_refl _, fun _ _ => rfl⟩⟩
  case round =>
    obtain ⟨k, h1, rfl, rfl, ho, hb⟩ := hrel
    have S9 := S8.below hb
    have R9 := R8.below hb
    obtain ⟨Ar, cr, rfl⟩ := own_form ho
    have hsz := hb.size
    have hlen := rest_len l x k h1
    generalize hR : (l.take k).filter (fun y => y != x) = R at ho hlen
    have HR := Lib.hid hR
    clear hR
    generalize ha : (occB l x 0 k).length = at_ at hlen
    have Ha := Lib.hid ha
    clear ha
    by_cases hlt : k < l.length
    · obtain ⟨y, hy⟩ : ∃ y, l[k]? = some y := ⟨_, List.getElem?_eq_getElem hlt⟩
      obtain ⟨p, rfl, c1⟩ := S9.rd.get k (.int .i64 y) (by simp [ints, hy])
      by_cases hyx : y = x
      · subst hyx
        have hsp := occ_split l y k l.length h1 k 0 (by omega)
        rw [occ_hit (k := k) hlt hy, ← HF.out] at hsp
        have hfa : F[at_]? = some (k : Int) := by rw [hsp, List.getElem?_append_right (by rw [Ha.out]; exact Nat.le_refl _), Ha.out]; simp
        have haF : at_ < F.length := (List.getElem?_eq_some_iff.1 hfa).1
        have hf1 := find_nth l y k at_ hlt hy Ha.out
        have hf2 := find_most l y k hlt
        have hf3 : (occB l y 0 (k + 1)).length = at_ + 1 := by rw [occ_next, if_pos hy]; simp [Ha.out]
        obtain ⟨q, rfl, c2⟩ := R9.get at_ (.int .i64 k) (by simp [ints, hfa])
        have Hf1 := Lib.hid hf1
        have Hf2 := Lib.hid hf2
        have Hf3 := Lib.hid hf3
        have hfl := rest_next l y y k hy
        rw [HR.out, if_pos rfl, List.append_nil] at hfl
        have Hfl := Lib.hid hfl
        clear hfl
        clear hf1 hf2 hf3 hsp hfa hy
        go_wp2_with fail
        refine (find_calls _ g v l y ((at_ : Int) + 1) 1 0 _ S9.dq (by omega) (by omega)).mono ?_
        rintro e w10 ⟨s10, rfl, ho10, hb10⟩
        rw [Hf1.out] at ho10
        obtain ⟨A10, c10, rfl⟩ := own_form ho10
        go_wp2_with fail
        refine (same_calls A10 _ 1 1 c10 1 [(k : Int)] [(k : Int)] _ (Rd.of_own (ho10.alloc _)) (rd_lit w10 #[.int .i64 k] _ 1 rfl rfl (by decide))).mono ?_
        rintro e w11 ⟨rfl, nd11, rfl⟩
        have B11 : Below wr.heap.size wr ((w10.alloc (.cells #[.int .i64 k] 3)).drewN nd11) := below_drawn (hb10.alloc hb10.size _) nd11
        have S11 := S9.below B11
        have R11 := R9.below B11
        have O11 := own_keep ho B11
        have hb11 := below_new hb B11
        clear B11 S9 R9 ho hb ho10 hb10
        generalize (w10.alloc (.cells #[.int .i64 k] 3)).drewN nd11 = w11 at S11 R11 O11 hb11 ⊢
        go_wp2_with fail
        refine (find_calls _ g v l y 1 0 ((k : Int) + 1) _ S11.dq (by omega) (by omega)).mono ?_
        rintro e w12 ⟨s12, rfl, ho12, hb12⟩
        rw [Hf2.out] at ho12
        have hf3 := Hf3.out
        generalize occB l y 0 (k + 1) = G at ho12 hf3
        obtain ⟨A12, c12, rfl⟩ := own_form ho12
        have O12 := own_keep O11 hb12
        have hb13 := below_new hb11 hb12
        clear ho12 S11 R11 O11 hb11 hb12
        go_wp2_with fail
        exact ⟨⟨k + 1, by omega, by rw [Hf3.out]; simp, by go_num, by rw [Hfl.out]; exact O12, hb13⟩, by simp [intOf]; omega⟩
      · have hne : (y != x) = true := by simpa using hyx
        have hfl := rest_next l x y k hy
        rw [HR.out, if_neg hyx] at hfl
        have hoc := occ_next l x k
        rw [if_neg (by rw [hy]; exact fun e => hyx (Option.some.inj e)), List.append_nil] at hoc
        have Hfl := Lib.hid hfl
        have Hoc := Lib.hid hoc
        clear hy hfl hoc
        go_wp2_with (at_builtin; refine wpList_app1 rfl (.tmp 56) (.tmp 61) elI rfl w8.heap.size _ _ _ rfl ho (.int .i64 _) rfl rfl (by unfold maxLen; omega) (by omega) hsz ?_; intro v1 w1 o1 b1 f1)
        exact ⟨⟨k + 1, by omega, by rw [Hoc.out, Ha.out], by go_num, by rw [Hfl.out]; exact own_snoc o1, b1.after hb (Nat.le_refl _) (fun b hb => (ho.lt b hb).1)⟩, by simp [intOf]; omega⟩
    · obtain rfl : k = l.length := by omega
      obtain rfl : F.length = at_ := by rw [HF.out]; exact Ha.out
      have hRl := HR.out
      rw [List.take_length] at hRl
      have hxR : x ∉ R := by rw [← hRl]; simp
      have hc := remove_calls _ g v l (-9223372036854775808) x _ S9.dq (by decide) (by decide)
      rw [remove_min, hRl] at hc
      have hq : (l.length : Int) - (R.length : Int) = (F.length : Int) := by omega
      have HXR := Lib.hid hxR
      have HC := Lib.hid hc
      clear hRl hxR hc
      go_wp2_with fail
      refine HC.out.mono ?_
      rintro e w10 ⟨v', rfl, hd', hO', hv'⟩
      obtain ⟨v2, S10⟩ := S9.left hr ⟨v', hd', hO', hv'⟩
      have hgl := S8.dq.lt
      have O10 := own_only ho hO' (fun b hb e => by have := (ho.lt b hb).1; omega)
      clear ho hO' hv' hd'
      go_wp2_with fail
      refine (list_calls _ g v2 R _ S10.dq).mono ?_
      rintro e w11 ⟨s11, rfl, ho11, hb11⟩
      have S11 := S10.below hb11
      have O11 := own_keep O10 hb11
      obtain ⟨A11, c11, rfl⟩ := own_form ho11
      go_wp2_with fail
      refine (same_calls A11 Ar R.length R.length c11 cr R R _ (Rd.of_own ho11) (Rd.of_own O11)).mono ?_
      rintro e w12 ⟨rfl, nd12, rfl⟩
      have S12 := S11.drawn nd12
      have O12 := own_keep O11 (below_drawn (Below.refl _ _) nd12)
      generalize w11.drewN nd12 = w12 at S12 O12 ⊢
      go_wp2_with fail
      refine (insert_calls _ g v2 R true x 5 _ S12.dq (by omega)).mono ?_
      rintro e w13 (⟨_, rfl, nd13, rfl⟩ | ⟨i, _, hi, _⟩)
      case inr => exact absurd (List.mem_of_getElem? hi) HXR.out
      have S13 := S12.drawn nd13
      have O13 := own_keep O12 (below_drawn (Below.refl _ _) nd13)
      generalize w12.drewN nd13 = w13 at S13 O13 ⊢
      go_wp2_with fail
      refine (list_calls _ g v2 R _ S13.dq).mono ?_
      rintro e w14 ⟨s14, rfl, ho14, hb14⟩
      have S14 := S13.below hb14
      have O14 := own_keep O13 hb14
      obtain ⟨A14, c14, rfl⟩ := own_form ho14
      go_wp2_with fail
      refine (same_calls A14 Ar R.length R.length c14 cr R R _ (Rd.of_own ho14) (Rd.of_own O14)).mono ?_
      rintro e w15 ⟨rfl, nd15, rfl⟩
      have S15 := S14.drawn nd15
      go_wp2_with fail
      go_ret
      exact ⟨rfl, S15.bel⟩
end Go.Proofs.Ytgbgdgncdanblaa.DqN
