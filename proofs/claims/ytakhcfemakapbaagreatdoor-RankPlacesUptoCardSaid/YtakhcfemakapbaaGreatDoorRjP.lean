/-
  RankPlaces. Conditions: as stated.
-/
import Derived.Test.YtakhcfemakapbaaGreatDoorRjO
set_option maxRecDepth 100000
set_option linter.unusedSimpArgs false
set_option linter.unusedVariables false
namespace Go.Proofs.YtakhcfemakapbaaGreatDoor.RjP
open Go Go.RowKit Go.Shelf Go.Sort Go.Proofs.YtakhcfemakapbaaGreatDoor.Mem Go.Proofs.YtakhcfemakapbaaGreatDoor.DuA Go.Proofs.YtakhcfemakapbaaGreatDoor.DuM Go.Proofs.YtakhcfemakapbaaGreatDoor.DuN Go.Proofs.YtakhcfemakapbaaGreatDoor.NumA Go.Proofs.YtakhcfemakapbaaGreatDoor.NumC Go.Proofs.YtakhcfemakapbaaGreatDoor.NumE Go.Proofs.YtakhcfemakapbaaGreatDoor.RkA Go.Proofs.YtakhcfemakapbaaGreatDoor.RkC Go.Proofs.YtakhcfemakapbaaGreatDoor.RkB Go.Proofs.YtakhcfemakapbaaGreatDoor.RkE Go.Proofs.YtakhcfemakapbaaGreatDoor.RkF Go.Proofs.YtakhcfemakapbaaGreatDoor.RkH Go.Proofs.YtakhcfemakapbaaGreatDoor.RkI Go.Proofs.YtakhcfemakapbaaGreatDoor.RkL Go.Proofs.YtakhcfemakapbaaGreatDoor.RkM Go.Proofs.YtakhcfemakapbaaGreatDoor.RkN Go.Proofs.YtakhcfemakapbaaGreatDoor.RkO Go.Proofs.YtakhcfemakapbaaGreatDoor.RkP Go.Proofs.YtakhcfemakapbaaGreatDoor.RkQ Go.Proofs.YtakhcfemakapbaaGreatDoor.RkW Go.Proofs.YtakhcfemakapbaaGreatDoor.RjJ Go.Proofs.YtakhcfemakapbaaGreatDoor.RjK Go.Proofs.YtakhcfemakapbaaGreatDoor.RjL Go.Proofs.YtakhcfemakapbaaGreatDoor.RjM Go.Proofs.YtakhcfemakapbaaGreatDoor.RjN Go.Proofs.YtakhcfemakapbaaGreatDoor.RjO

theorem pl_at {M : List En} (hn : (M.map (·.2)).Nodup) {i : Nat} {y : En} (hy : M[i]? = some y) : plN M y.2 = i := by
  have hi := (List.getElem?_eq_some_iff.1 hy).1
  refine pl_uniq (fun j e hj he hk => ?_) (.inr ⟨y, hy, rfl⟩)
  have hjl := (List.getElem?_eq_some_iff.1 he).1
  have hn2 := List.nodup_iff_pairwise_ne.1 hn
  rw [List.pairwise_map] at hn2
  have := List.pairwise_iff_getElem.1 hn2 j i hjl hi hj
  rw [(List.getElem?_eq_some_iff.1 he).2, (List.getElem?_eq_some_iff.1 hy).2] at this
  exact this hk
theorem place_f {M : List En} (hn : (M.map (·.2)).Nodup) {i : Nat} {y : En} (hy : M[i]? = some y) : placeV M y.2 false = .tuple #[.int .i64 i, .bool true] := by
  have hp := pl_at hn hy
  have hi := (List.getElem?_eq_some_iff.1 hy).1
  unfold placeV
  rw [place_is hn false (by rw [hp]; exact hi), hp]
  rfl
theorem place_t {M : List En} (hn : (M.map (·.2)).Nodup) {i : Nat} {y : En} (hy : M[i]? = some y) : placeV M y.2 true = .tuple #[.int .i64 ((M.length - 1 - i : Nat)), .bool true] := by
  have hp := pl_at hn hy
  have hi := (List.getElem?_eq_some_iff.1 hy).1
  unfold placeV
  rw [place_is hn true (by rw [hp]; exact hi), hp]
  rfl
theorem take_one {M : List En} {i : Nat} {y : En} (hy : M[i]? = some y) : (M.drop i).take 1 = [y] := by
  have hi := (List.getElem?_eq_some_iff.1 hy)
  rw [List.drop_eq_getElem_cons hi.1, hi.2]
  rfl
theorem slice_f {M : List En} {i : Nat} {y : En} (hy : M[i]? = some y) : sliceL M i i false = [y] := by
  have hi := (List.getElem?_eq_some_iff.1 hy).1
  have h1 : fromI M.length (i : Int) = i := by unfold fromI; omega
  have h2 : toI M.length (i : Int) = i := by unfold toI; omega
  unfold sliceL wayL
  rw [h1, h2, if_neg (by omega)]
  have h3 : (i : Int).toNat + 1 - (i : Int).toNat = 1 := by omega
  rw [h3, Int.toNat_natCast]
  exact take_one hy
theorem slice_t {M : List En} {i : Nat} {y : En} (hy : M[i]? = some y) : sliceL M (-1 - (i : Int)) (-1 - (i : Int)) true = [y] := by
  have hi := (List.getElem?_eq_some_iff.1 hy).1
  have h1 : fromI M.length (-1 - (i : Int)) = ((M.length - 1 - i : Nat) : Int) := by unfold fromI; omega
  have h2 : toI M.length (-1 - (i : Int)) = ((M.length - 1 - i : Nat) : Int) := by unfold toI; omega
  unfold sliceL wayL
  rw [h1, h2, if_neg (by omega)]
  have h3 : (((M.length - 1 - i : Nat) : Int)).toNat + 1 - (((M.length - 1 - i : Nat) : Int)).toNat = 1 := by omega
  rw [h3, Int.toNat_natCast]
  refine take_one (M := M.reverse) ?_
  rw [List.getElem?_reverse (by omega), show M.length - 1 - (M.length - 1 - i) = i by omega]
  exact hy
theorem score_of {l : List En} (hn : (l.map (·.2)).Nodup) {y : En} (hy : y ∈ l) : opt (ofL l) y.2 = .tuple #[.int .i64 y.1, .bool true] := by
  obtain ⟨h1, h2⟩ := of_facts hn
  have hd : dueL (ofL l) y.2 = some y.1 := (due_some h1.one).2 (h2.mem_iff.2 hy)
  unfold opt
  rw [hd]
  rfl
theorem bef_next {M : List En} (hs : Srt ltS M) {i : Nat} {x y : En} (hx : M[i]? = some x) (hy : M[i + 1]? = some y) : x.1 < y.1 ∨ (x.1 = y.1 ∧ Op.bytesLess x.2.toList y.2.toList = true) := by
  obtain ⟨h1, rfl⟩ := List.getElem?_eq_some_iff.1 hx
  obtain ⟨h2, rfl⟩ := List.getElem?_eq_some_iff.1 hy
  have := List.pairwise_iff_getElem.1 hs.ord i (i + 1) h1 h2 (by omega)
  unfold bef ltS at this
  simp only [Bool.or_eq_true, Bool.and_eq_true, decide_eq_true_eq] at this
  exact this
set_option maxHeartbeats 2000000 in
theorem places_calls (A : Option Addr) (n c : Nat) (l : List En) (W : World) (hr : RdE W A n c l) (hg : Gd l) (hn : n ≤ 1048576) (hL : Laid W) :
    Calls Tryz.prog 6 #[.slice A n c] W fun e w' => e = .returned (.bool true) ∧ Below W.heap.size W w' := by
  obtain rfl := rde_len hr
  have htw := twin_calls A l.length c l W hr (sm hn)
  have HR := Lib.hid (And.intro hr (And.intro hg.ok hL))
  have HN := Lib.hid (sm hn)
  have HG := Lib.hid hg
  clear hr hg hL
  by_cases hS : allS l
  · by_cases hD : (l.map (·.2)).Nodup
    · have HSD := Lib.hid (And.intro hS hD)
      have hlm := len_ofL hD
      have hsc : Hid (∀ y ∈ l, opt (ofL l) y.2 = .tuple #[.int .i64 y.1, .bool true]) := Lib.hid (fun y hy => score_of hD hy)
      have hsm := (of_facts hD).1
      have hmS : allS (ofL l) := fun e he => hS e ((of_facts hD).2.mem_iff.1 he)
      have hmk : ∀ e ∈ ofL l, okk e.2 := fun e he => HR.out.2.1 e ((of_facts hD).2.mem_iff.1 he)
      have hid : ofL (ofL l) = ofL l := of_id hsm
      have hof : Hid (∀ (A1 : Option Addr) (c1 : Nat) w, RdE w A1 l.length c1 l → Calls Tryz.prog 11 #[.slice A1 l.length c1] w fun e w' => ∃ g m, e = .returned (.tuple #[.pointer (some ⟨g, 0, none⟩), .int .i64 0]) ∧ Ps w w' g m (ofL l) l.length) := Lib.hid (fun A1 c1 w hr => of_ok A1 l.length c1 l w hr HR.out.2.1 HN.out hS hD)
      obtain ⟨M, hM⟩ : ∃ M, M = ofL l := ⟨_, rfl⟩
      rw [← hM] at hlm hsc hsm hmS hmk hid hof
      have HM := Lib.hid (And.intro hsm (And.intro hmS (And.intro hmk hid)))
      have HLM := Lib.hid hlm
      clear hS hD hM hsm hmS hmk hid
      go_enter Tryz.func6, Tryz.ntmps6
      go_wp2_with fail
      refine htw.mono ?_
      clear htw
      rintro e w1 ⟨v1, rfl, o1, b1⟩
      obtain ⟨A1, c1, rfl, r1⟩ := own_rd o1
      have h := hof.out A1 c1 w1 r1
      have HB1 := Lib.hid b1
      clear o1 r1 b1 hof
      go_wp2_with fail
      refine Calls.mono h ?_
      clear h
      rintro e w2 ⟨g, m, rfl, P2⟩
      have HP2 := Lib.hid (Ps.base P2 HB1.out)
      have h := HP2.out.list HN.out
      clear P2
      go_wp2_with fail
      refine Calls.mono h ?_
      clear h
      rintro e w4 ⟨v4, rfl, o4, b4⟩
      obtain ⟨A4, c4, rfl⟩ := own_form o4
      have r4 := Rd.of_own o4
      rw [hlm] at r4
      have HP4 := Lib.hid (And.intro (HP2.out.below b4) r4)
      have h := HP4.out.1.len
      rw [hlm] at h
      have hcap := r4.cap
      clear b4 o4 r4
      simp only [HLM.out]
      go_wp2_with fail
      refine Calls.mono h ?_
      clear h
      rintro e w5 ⟨rfl, hw5⟩
      subst hw5
      go_wp2_with fail
      go_loopw [8] (fun iv wr => ∃ j : Nat, iv = .int .i64 j ∧ j ≤ l.length ∧ Hid (Below w5.heap.size w5 wr)) (fun iv _ => l.length - (intOf iv).toNat)
      case atStart => exact ⟨0, rfl, Nat.zero_le _, Lib.hid (Below.refl _ _)⟩
      case round =>
        obtain ⟨j, rfl, hj, HB⟩ := hrel
        by_cases hlt : j < l.length
        · obtain ⟨y, hy⟩ : ∃ y, l[j]? = some y := ⟨_, List.getElem?_eq_getElem hlt⟩
          obtain ⟨q, hq, x0, x1⟩ := rde_get (HR.out.1.below (below_seq HP4.out.1.bel HB.out)) hy
          subst hq
          have h := (HP4.out.1.below HB.out).score y.2 (HR.out.2.1 y (List.mem_of_getElem? hy))
          rw [hsc.out y (List.mem_of_getElem? hy)] at h
          clear hy
          go_wp2_with (go_at_call 22; refine h.mono ?_; rintro e w6 ⟨rfl, hw6⟩; subst hw6)
          exact ⟨⟨j + 1, by go_num, by omega, HB⟩, by simp [intOf]; omega⟩
        · obtain rfl : j = l.length := by omega
          go_wp2_with fail
          go_loopw [11] (fun iv wx => ∃ j : Nat, iv = .int .i64 j ∧ j ≤ l.length ∧ Hid (Below w5.heap.size w5 wx)) (fun iv _ => l.length - (intOf iv).toNat)
          case atStart => exact ⟨0, rfl, Nat.zero_le _, HB⟩
          case round =>
            clear HB
            obtain ⟨j, rfl, hj, HB⟩ := hrel
            by_cases hlt : j < l.length
            · obtain ⟨y, hy⟩ : ∃ y, M[j]? = some y := ⟨_, List.getElem?_eq_getElem (by have := HLM.out; omega)⟩
              have hrM : RdE wr A4 l.length c4 M := HP4.out.2.below HB.out
              obtain ⟨q, hq, x0, x1⟩ := rde_get hrM hy
              have hyk := HM.out.2.2.1 y (List.mem_of_getElem? hy)
              have p1 : Hid (∀ w, Below w5.heap.size w5 w → Calls Tryz.prog 23 #[.pointer (some ⟨g, 0, none⟩), .string y.2, .bool false] w fun e w' => e = .returned (.tuple #[.int .i64 j, .bool true]) ∧ Below w.heap.size w w') := Lib.hid (fun w hb => by
                have := (HP4.out.1.below hb).place y.2 false hyk HN.out
                rwa [place_f HM.out.1.one hy] at this)
              have hjj : ((l.length : Int) - 1 - (j : Int)) = ((M.length - 1 - j : Nat) : Int) := by have := HLM.out; omega
              have p2 : Hid (∀ w, Below w5.heap.size w5 w → Calls Tryz.prog 23 #[.pointer (some ⟨g, 0, none⟩), .string y.2, .bool true] w fun e w' => e = .returned (.tuple #[.int .i64 ((l.length : Int) - 1 - (j : Int)), .bool true]) ∧ Below w.heap.size w w') := Lib.hid (fun w hb => by
                have := (HP4.out.1.below hb).place y.2 true hyk HN.out
                rw [place_t HM.out.1.one hy] at this
                rw [hjj]
                exact this)
              have s1 : Hid (∀ w, Below w5.heap.size w5 w → Calls Tryz.prog 24 #[.pointer (some ⟨g, 0, none⟩), .int .i64 j, .int .i64 j, .bool false] w fun e w' => ∃ A6 c6, e = .returned (.slice A6 1 c6) ∧ RdE w' A6 1 c6 [y] ∧ Below w.heap.size w w') := Lib.hid (fun w hb => by
                refine ((HP4.out.1.below hb).slice j j false HN.out ⟨by omega, by omega⟩ ⟨by omega, by omega⟩).mono ?_
                rintro e w' ⟨v, rfl, o, b⟩
                rw [slice_f hy] at o
                obtain ⟨A6, c6, rfl, r6⟩ := own_rd o
                exact ⟨A6, c6, rfl, r6, b⟩)
              have s2 : Hid (∀ w, Below w5.heap.size w5 w → Calls Tryz.prog 24 #[.pointer (some ⟨g, 0, none⟩), .int .i64 (-1 - (j : Int)), .int .i64 (-1 - (j : Int)), .bool true] w fun e w' => ∃ A6 c6, e = .returned (.slice A6 1 c6) ∧ RdE w' A6 1 c6 [y] ∧ Below w.heap.size w w') := Lib.hid (fun w hb => by
                refine ((HP4.out.1.below hb).slice (-1 - (j : Int)) (-1 - (j : Int)) true HN.out ⟨by omega, by omega⟩ ⟨by omega, by omega⟩).mono ?_
                rintro e w' ⟨v, rfl, o, b⟩
                rw [slice_t hy] at o
                obtain ⟨A6, c6, rfl, r6⟩ := own_rd o
                exact ⟨A6, c6, rfl, r6, b⟩)
              have hcut : ∀ W, (Instr.slice 22 (.slice A4 l.length c4) (some (.int .i64 j)) (some (.int .i64 ((j : Int) + 1))) none).run Tryz.prog W = .ok (.slice (if c4 = j then A4 else A4.map (·.add (j * 2))) 1 (c4 - j)) W := fun W => cut_mid A4 l.length c4 j 1 (by omega) W
              have hrow : RdE w5 (if c4 = j then A4 else A4.map (·.add (j * 2))) 1 (c4 - j) [y] := by
                have := rde_take (rde_drop HP4.out.2 (k := j) (by omega)) (k := 1) (by omega)
                rwa [take_one hy] at this
              obtain ⟨A7, hA7⟩ : ∃ A7, A7 = (if c4 = j then A4 else A4.map (·.add (j * 2))) := ⟨_, rfl⟩
              obtain ⟨c7, hc7⟩ : ∃ c7, c7 = c4 - j := ⟨_, rfl⟩
              rw [← hA7, ← hc7] at hrow
              simp only [← hA7, ← hc7] at hcut
              have HRow := Lib.hid hrow
              have key : (decide (0 < j) = false) ∨ ∃ (i : Nat) (x : En) (qq : Addr), decide (0 < j) = true ∧ ((j : Int) - 1) = (i : Int) ∧ i < l.length ∧ wr.cell? (q.add (i * 2)) = some (.string x.2) ∧ wr.cell? ⟨(q.add (i * 2)).block, (q.add (i * 2)).off + 1, none⟩ = some (.int .i64 x.1) ∧ (x.1 < y.1 ∨ (x.1 = y.1 ∧ Op.bytesLess x.2.toList y.2.toList = true)) := by
                rcases Nat.eq_zero_or_pos j with h0 | h0
                · exact .inl (decide_eq_false (by omega))
                · obtain ⟨i, rfl⟩ : ∃ i, j = i + 1 := ⟨j - 1, by omega⟩
                  obtain ⟨x, hx⟩ : ∃ x, M[i]? = some x := ⟨_, List.getElem?_eq_getElem (by have := HLM.out; omega)⟩
                  obtain ⟨q2, hq2, y0, y1⟩ := rde_get hrM hx
                  rw [hq] at hq2
                  injection hq2 with hq2
                  subst hq2
                  exact .inr ⟨i, x, q, decide_eq_true (by omega), by omega, by omega, y0, y1, bef_next HM.out.1 hx hy⟩
              subst hq
              have wr1 : IntKind.i64.wrap ((l.length : Int) - 1) = (l.length : Int) - 1 := by rw [IntKind.wrap_i64]; omega
              have wr2 : IntKind.i64.wrap ((l.length : Int) - 1 - (j : Int)) = (l.length : Int) - 1 - (j : Int) := by rw [IntKind.wrap_i64]; omega
              have wr3 : IntKind.i64.wrap (-1 - (j : Int)) = -1 - (j : Int) := by rw [IntKind.wrap_i64]; omega
              have wr4 : IntKind.i64.wrap ((j : Int) + 1) = (j : Int) + 1 := by rw [IntKind.wrap_i64]; omega
              have hjc : (j : Int) + 1 ≤ (c4 : Int) := by omega
              clear hy hrM hA7 hc7 hrow hjj hyk
              rcases key with e0 | ⟨i, x, -, e0, hi1, hil, y0, y1, hxy | ⟨hxy, hxb⟩⟩
              · go_upto_region 17 with fail
                go_quiet (fail)
                have HBn := Lib.hid (HB.out.trans ((below_drawn_ (Below.refl wr.heap.size wr) nq).mono HB.out.size))
                go_wp2_with fail
                refine (p1.out _ HBn.out).mono ?_
                rintro e w6 ⟨rfl, b6⟩
                have z0 := cell_b (w := wr.drewN nq) x0 b6
                have HB6 := Lib.hid (below_seq HBn.out b6)
                clear b6
                go_wp2_with fail
                refine (p2.out _ HB6.out).mono ?_
                rintro e w7 ⟨rfl, b7⟩
                have HB7 := Lib.hid (below_seq HB6.out b7)
                have HB8 : Hid (Below w5.heap.size w5 (w7.drewN 1)) := Lib.hid (HB7.out.trans ((below_drawn_ (Below.refl w7.heap.size w7) 1).mono HB7.out.size))
                clear b7 z0
                go_upto_region 21 with fail
                go_region_held3 (fun w' => Below w5.heap.size w5 w')
                  (first | exact HB8.out | assumption)
                  (first
                    | (go_at_call 13; refine (same_true A10 A7 1 c10 1 c7 [y] [y] _ r10 (HRow.out.below q10) (by decide) rfl).mono ?_; rintro e w11 ⟨rfl, b11⟩; have q11 : Below w5.heap.size w5 w11 := below_seq q10 b11)
                    | (go_at_call 24; refine (s2.out _ q9).mono ?_; rintro e w10 ⟨A10, c10, rfl, r10, b10⟩; have q10 : Below w5.heap.size w5 w10 := below_seq q9 b10)
                    | (go_at_call 13; refine (same_true A8 A7 1 c8 1 c7 [y] [y] _ r8 (HRow.out.below q8) (by decide) rfl).mono ?_; rintro e w9 ⟨rfl, b9⟩; have q9 : Below w5.heap.size w5 w9 := below_seq q8 b9)
                    | (go_at_call 24; refine (s1.out _ HB8.out).mono ?_; rintro e w8 ⟨A8, c8, rfl, r8, b8⟩; have q8 : Below w5.heap.size w5 w8 := below_seq HB8.out b8))
                have HB11 := Lib.hid q11
                clear q8 q9 q10 q11 b8 b9 b10 b11 r8 r10
                go_wp2_with fail
                exact ⟨⟨j + 1, by go_num, by omega, HB11⟩, by simp [intOf]; omega⟩
              · have e1 : decide (y.1 < x.1) = false := decide_eq_false (by omega)
                have e2 : (x.1 == y.1) = false := by rw [beq_eq_false_iff_ne]; omega
                have e3 : decide (x.1 = y.1) = false := decide_eq_false (by omega)
                go_upto_region 17 with fail
                go_quiet (fail)
                have HBn := Lib.hid (HB.out.trans ((below_drawn_ (Below.refl wr.heap.size wr) nq).mono HB.out.size))
                go_wp2_with fail
                refine (p1.out _ HBn.out).mono ?_
                rintro e w6 ⟨rfl, b6⟩
                have z0 := cell_b (w := wr.drewN nq) x0 b6
                have HB6 := Lib.hid (below_seq HBn.out b6)
                clear b6
                go_wp2_with fail
                refine (p2.out _ HB6.out).mono ?_
                rintro e w7 ⟨rfl, b7⟩
                have HB7 := Lib.hid (below_seq HB6.out b7)
                have HB8 : Hid (Below w5.heap.size w5 (w7.drewN 1)) := Lib.hid (HB7.out.trans ((below_drawn_ (Below.refl w7.heap.size w7) 1).mono HB7.out.size))
                clear b7 z0
                go_upto_region 21 with fail
                go_region_held3 (fun w' => Below w5.heap.size w5 w')
                  (first | exact HB8.out | assumption)
                  (first
                    | (go_at_call 13; refine (same_true A10 A7 1 c10 1 c7 [y] [y] _ r10 (HRow.out.below q10) (by decide) rfl).mono ?_; rintro e w11 ⟨rfl, b11⟩; have q11 : Below w5.heap.size w5 w11 := below_seq q10 b11)
                    | (go_at_call 24; refine (s2.out _ q9).mono ?_; rintro e w10 ⟨A10, c10, rfl, r10, b10⟩; have q10 : Below w5.heap.size w5 w10 := below_seq q9 b10)
                    | (go_at_call 13; refine (same_true A8 A7 1 c8 1 c7 [y] [y] _ r8 (HRow.out.below q8) (by decide) rfl).mono ?_; rintro e w9 ⟨rfl, b9⟩; have q9 : Below w5.heap.size w5 w9 := below_seq q8 b9)
                    | (go_at_call 24; refine (s1.out _ HB8.out).mono ?_; rintro e w8 ⟨A8, c8, rfl, r8, b8⟩; have q8 : Below w5.heap.size w5 w8 := below_seq HB8.out b8))
                have HB11 := Lib.hid q11
                clear q8 q9 q10 q11 b8 b9 b10 b11 r8 r10
                go_wp2_with fail
                exact ⟨⟨j + 1, by go_num, by omega, HB11⟩, by simp [intOf]; omega⟩
              · have e1 : decide (y.1 < x.1) = false := decide_eq_false (by omega)
                have e2 : (x.1 == y.1) = true := by rw [beq_iff_eq]; exact hxy
                have e3 : decide (x.1 = y.1) = true := decide_eq_true hxy
                clear hxy
                go_upto_region 17 with fail
                go_quiet (fail)
                have HBn := Lib.hid (HB.out.trans ((below_drawn_ (Below.refl wr.heap.size wr) nq).mono HB.out.size))
                go_wp2_with fail
                refine (p1.out _ HBn.out).mono ?_
                rintro e w6 ⟨rfl, b6⟩
                have z0 := cell_b (w := wr.drewN nq) x0 b6
                have HB6 := Lib.hid (below_seq HBn.out b6)
                clear b6
                go_wp2_with fail
                refine (p2.out _ HB6.out).mono ?_
                rintro e w7 ⟨rfl, b7⟩
                have HB7 := Lib.hid (below_seq HB6.out b7)
                have HB8 : Hid (Below w5.heap.size w5 (w7.drewN 1)) := Lib.hid (HB7.out.trans ((below_drawn_ (Below.refl w7.heap.size w7) 1).mono HB7.out.size))
                clear b7 z0
                go_upto_region 21 with fail
                go_region_held3 (fun w' => Below w5.heap.size w5 w')
                  (first | exact HB8.out | assumption)
                  (first
                    | (go_at_call 13; refine (same_true A10 A7 1 c10 1 c7 [y] [y] _ r10 (HRow.out.below q10) (by decide) rfl).mono ?_; rintro e w11 ⟨rfl, b11⟩; have q11 : Below w5.heap.size w5 w11 := below_seq q10 b11)
                    | (go_at_call 24; refine (s2.out _ q9).mono ?_; rintro e w10 ⟨A10, c10, rfl, r10, b10⟩; have q10 : Below w5.heap.size w5 w10 := below_seq q9 b10)
                    | (go_at_call 13; refine (same_true A8 A7 1 c8 1 c7 [y] [y] _ r8 (HRow.out.below q8) (by decide) rfl).mono ?_; rintro e w9 ⟨rfl, b9⟩; have q9 : Below w5.heap.size w5 w9 := below_seq q8 b9)
                    | (go_at_call 24; refine (s1.out _ HB8.out).mono ?_; rintro e w8 ⟨A8, c8, rfl, r8, b8⟩; have q8 : Below w5.heap.size w5 w8 := below_seq HB8.out b8))
                have HB11 := Lib.hid q11
                clear q8 q9 q10 q11 b8 b9 b10 b11 r8 r10
                go_wp2_with fail
                exact ⟨⟨j + 1, by go_num, by omega, HB11⟩, by simp [intOf]; omega⟩
            · obtain rfl : j = l.length := by omega
              clear hlm
              have h := of_ok A4 l.length c4 M wr (HP4.out.2.below HB.out) HM.out.2.2.1 HN.out HM.out.2.1 HM.out.1.one
              rw [HM.out.2.2.2] at h
              have HP5 := Lib.hid (HP4.out.1.below HB.out)
              go_wp2_with fail
              refine Calls.mono h ?_
              clear h
              rintro e w6 ⟨g2, m2, rfl, P6⟩
              have HP6 := Lib.hid (HP5.out.below P6.bel)
              have h := P6.list (by rw [HLM.out]; exact HN.out)
              clear P6
              go_wp2_with fail
              refine Calls.mono h ?_
              clear h
              rintro e w7 ⟨v7, rfl, o7, b7⟩
              obtain ⟨A7, c7, rfl, r7⟩ := own_rd o7
              have HP7 := Lib.hid (And.intro (HP6.out.below b7) r7)
              have h := HP7.out.1.list HN.out
              clear o7 b7 r7
              go_wp2_with fail
              refine Calls.mono h ?_
              clear h
              rintro e w8 ⟨v8, rfl, o8, b8⟩
              obtain ⟨A8, c8, rfl, r8⟩ := own_rd o8
              have HP8 := Lib.hid (HP7.out.1.below b8)
              have h := same_true A7 A8 _ c7 _ c8 M M w8 (HP7.out.2.below b8) r8 (by rw [HLM.out]; exact HN.out) rfl
              clear o8 b8 r8
              go_wp2_with fail
              refine Calls.mono h ?_
              clear h
              rintro e w9 ⟨rfl, b9⟩
              have HP9 := Lib.hid (HP8.out.below b9)
              have h := sure_calls w9 (HR.out.2.2.below HP9.out.bel)
              clear b9
              go_wp2_with fail
              refine Calls.mono h ?_
              clear h
              rintro e w10 ⟨rfl, b10⟩
              go_wp2_with fail
              go_ret
              exact ⟨rfl, below_seq HP9.out.bel b10⟩
    · have HSD := Lib.hid (And.intro hS hD)
      clear hS hD
      go_enter Tryz.func6, Tryz.ntmps6
      go_wp2_with fail
      refine htw.mono ?_
      clear htw
      rintro e w1 ⟨v1, rfl, o1, b1⟩
      obtain ⟨A1, c1, rfl, r1⟩ := own_rd o1
      have h := of_twice A1 l.length c1 l w1 HR.out.2.1 HN.out HSD.out.1 HSD.out.2 r1
      have HB1 := Lib.hid b1
      clear o1 r1 b1
      go_wp2_with fail
      refine Calls.mono h ?_
      clear h
      rintro e w2 ⟨rfl, b2⟩
      have HB2 := Lib.hid (below_seq HB1.out b2)
      clear b2
      have h := ofR_twice A l.length c l w2 HN.out HSD.out.1 HSD.out.2 (HR.out.1.below HB2.out)
      go_wp2_with fail
      refine Calls.mono h ?_
      clear h
      rintro e w3 ⟨rfl, b3⟩
      have HB3 := Lib.hid (below_seq HB2.out b3)
      clear b3
      have h := sure_calls w3 (HR.out.2.2.below HB3.out)
      go_wp2_with fail
      refine Calls.mono h ?_
      clear h
      rintro e w8 ⟨rfl, b8⟩
      go_wp2_with fail
      go_ret
      exact ⟨rfl, below_seq HB3.out b8⟩
  · have HSD := Lib.hid hS
    clear hS
    go_enter Tryz.func6, Tryz.ntmps6
    go_wp2_with fail
    refine htw.mono ?_
    clear htw
    rintro e w1 ⟨v1, rfl, o1, b1⟩
    obtain ⟨A1, c1, rfl, r1⟩ := own_rd o1
    have h := of_bad A1 l.length c1 l w1 r1 HR.out.2.1 HN.out HSD.out
    have HB1 := Lib.hid b1
    clear o1 r1 b1
    go_wp2_with fail
    refine Calls.mono h ?_
    clear h
    rintro e w2 ⟨rfl, b2⟩
    have HB2 := Lib.hid (below_seq HB1.out b2)
    clear b2
    have h := ofR_bad A l.length c l w2 HN.out HSD.out (HR.out.1.below HB2.out)
    go_wp2_with fail
    refine Calls.mono h ?_
    clear h
    rintro e w3 ⟨rfl, b3⟩
    have HB3 := Lib.hid (below_seq HB2.out b3)
    clear b3
    have h := sure_calls w3 (HR.out.2.2.below HB3.out)
    go_wp2_with fail
    refine Calls.mono h ?_
    clear h
    rintro e w8 ⟨rfl, b8⟩
    go_wp2_with fail
    go_ret
    exact ⟨rfl, below_seq HB3.out b8⟩
theorem places_law (A : Option Addr) (n c : Nat) (z : List (ByteArray × Int)) (W : World) (hr : Rd W 2 A n c (z.flatMap scF)) (hl : z.length = n) (h1 : ∀ x ∈ z, scOK x) (h2 : (z.map scM).sum ≤ 1048576) (hL : Laid W) :
    Calls Tryz.prog 6 #[.slice A n c] W fun e w' => e = .returned (.bool true) ∧ Below W.heap.size W w' :=
  places_calls A n c (toEn z) W (rd_of hr) (gd_of h2) (by rw [← hl]; exact len_of h2) hL
end Go.Proofs.YtakhcfemakapbaaGreatDoor.RjP
