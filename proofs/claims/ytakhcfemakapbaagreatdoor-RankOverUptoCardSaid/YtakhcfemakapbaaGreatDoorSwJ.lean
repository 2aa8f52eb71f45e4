/-
  sort.breakPatterns_func, reverseRange_func, pdqsort_func where 'less' may lay blocks. Conditions: as stated. (Printed by tools/gen_swj.py.)
-/
import Derived.Test.YtakhcfemakapbaaGreatDoorRsA
import Derived.Test.YtakhcfemakapbaaGreatDoorRsB
import Derived.Test.YtakhcfemakapbaaGreatDoorSwG
import Derived.Test.YtakhcfemakapbaaGreatDoorRsC
import Derived.Sort.Walk13
import Derived.Sort.AssemblyPlain
set_option maxRecDepth 100000
set_option linter.unusedSimpArgs false
set_option linter.unusedVariables false
namespace Go.Proofs.YtakhcfemakapbaaGreatDoor.SwJ
open Go Go.Shelf Go.RowKit Go.Sort Go.Proofs.YtakhcfemakapbaaGreatDoor.Mem Go.Proofs.YtakhcfemakapbaaGreatDoor.DuM Go.Proofs.YtakhcfemakapbaaGreatDoor.SwA Go.Proofs.YtakhcfemakapbaaGreatDoor.SwF
variable {α : Type} [Inhabited α]
theorem only_swk {enc : α → List Value} {k : Nat} {w : World} {blk off n : Nat} {os : Array Obj} (d : Array α) : Only (fun b => b = blk) w (sortWorldK enc k w blk off n d os) := by
  refine ⟨rfl, rfl, rfl, by simp [sortWorldK, grow, putRowK, putRow, mapBlock, Sort.ahead], fun i hi hn => ?_⟩
  unfold sortWorldK
  rw [heap_grow_old _ _ (by simpa [putRowK, putRow, mapBlock] using hi)]
  have : blk ≠ i := fun e => hn e.symm
  simp [putRowK, putRow, mapBlock, Sort.ahead, Array.getElem?_modify, this]
section
variable {enc : α → List Value} {k : Nat} {lt : α → α → Bool} {g : Nat} {lb : Array Value} {sf : Nat} {sb : Array Value} {blk off size : Nat} {w0 : World}
theorem brk_calls (E : Env enc k lt g lb sf sb blk off size w0) (a b : Nat) (d : Array α) (W : World) (h : SWK enc k w0 blk off d W) (hs : d.size = size) (hab : a ≤ b) (hb : b ≤ size) :
    Calls Tryz.prog 91 #[dV g lb sf sb, .int .i64 a, .int .i64 b] W fun e w' => e = .returned (.tuple #[]) ∧ St enc k blk off w0 W (breakPatterns d a b) w' := by
  subst hs
  have hc := Any.breakPatterns_func_cells_w (L' := { YtakhcfemakapbaaGreatDoor.sortSl with }) enc k E.hk (.func g) #[] lb sf sb blk off a b d W E.swap (E.hold h rfl) (h.lt E.hblk) hab hb E.hsz
  refine Calls.mono hc ?_
  rintro e w' ⟨rfl, n, os, rfl⟩
  exact ⟨rfl, h.on E.hblk n _ os (breakPatterns_holds d a b hab hb).1, only_swk _⟩
theorem rev_calls (E : Env enc k lt g lb sf sb blk off size w0) (a b : Nat) (d : Array α) (W : World) (h : SWK enc k w0 blk off d W) (hs : d.size = size) (hab : a ≤ b) (hb : b ≤ size) :
    Calls Tryz.prog 93 #[dV g lb sf sb, .int .i64 a, .int .i64 b] W fun e w' => e = .returned (.tuple #[]) ∧ St enc k blk off w0 W (reverseRange d a b) w' := by
  subst hs
  have hc := Any.reverseRange_func_cells_w (L := { YtakhcfemakapbaaGreatDoor.sortSl with }) enc k E.hk (.func g) #[] lb sf sb blk off a b d W E.swap (E.hold h rfl) (h.lt E.hblk) hab hb E.hsz
  refine Calls.mono hc ?_
  rintro e w' ⟨rfl, n, os, rfl⟩
  exact ⟨rfl, h.on E.hblk n _ os (reverseRange_holds d a b hab hb).1, only_swk _⟩
theorem code_of {d : Array α} {a b : Nat} (h : 12 < b - a) : hintCode (choosePivot lt d a b).2 = hintI (rawP lt d a b).2 ∧ (choosePivot lt d a b).1 = (rawP lt d a b).1 := by
  rw [choose_raw lt d a b h]
  refine ⟨?_, rfl⟩
  unfold hintI
  simp only
  split
  · rfl
  · split <;> rfl
set_option maxHeartbeats 16000000 in
theorem pdq_calls (E : Env enc k lt g lb sf sb blk off size w0) (hO : SWO lt) : ∀ (N a b limit : Nat) (d : Array α) (W : World), b - a < N → SWK enc k w0 blk off d W → d.size = size → a ≤ b → b ≤ size → limit < 4611686018427387904 → Below lt a b d →
    Calls Tryz.prog 61 #[dV g lb sf sb, .int .i64 a, .int .i64 b, .int .i64 limit] W fun e w' => e = .returned (.tuple #[]) ∧ St enc k blk off w0 W (pdq lt d a b limit true true) w' := by
  intro N
  induction N with
  | zero => intro _ _ _ _ _ h; exact absurd h (Nat.not_lt_zero _)
  | succ N ih =>
    intro a b limit d W hN h hs hab hb hlimit hBel0
    have hsz := E.hsz
    have hbl : blk < W.heap.size := h.lt E.hblk
    have eg := E.eg
    have s0 : St enc k blk off w0 W d (W.alloc (.cells #[.func (.func g) #[] lb, .func (.func sf) #[] sb] 105)) := (St.start h).alloc _
    have x0 := Bx.new W (.func (.func g) #[] lb) (.func (.func sf) #[] sb) 105 hbl
    have H0 := Lib.hid (And.intro s0 (And.intro x0 hBel0))
    clear s0 x0 h hBel0
    go_enter Tryz.func61, Tryz.ntmps61
    go_wp2_with fail
    go_loopg [1, 2, 3, 8, 9] (b - a) (fun kk s1 s2 s3 s8 s9 wr => ∃ (a' b' lim : Nat) (wb wp : Bool) (dk : Array α), s1 = .int .i64 a' ∧ s2 = .int .i64 b' ∧ s3 = .int .i64 lim ∧ s8 = .bool wb ∧ s9 = .bool wp ∧
      a' ≤ b' ∧ b' ≤ size ∧ b' - a' ≤ kk ∧ kk ≤ b - a ∧ lim ≤ limit ∧ dk.size = size ∧ Hid (Below lt a' b' dk ∧ St enc k blk off w0 W dk wr ∧ Bx W.heap.size (.func (.func g) #[] lb) (.func (.func sf) #[] sb) blk wr ∧ pdq lt dk a' b' lim wb wp = pdq lt d a b limit true true))
    case atStart => exact ⟨a, b, limit, true, true, d, rfl, rfl, rfl, rfl, rfl, hab, hb, Nat.le_refl _, Nat.le_refl _, Nat.le_refl _, hs, Lib.hid ⟨H0.out.2.2, H0.out.1, H0.out.2.1, rfl⟩⟩
    case round =>
      obtain ⟨a', b', lim, wb, wp, dk, rfl, rfl, rfl, rfl, rfl, hab', hb', hk, hkN, hlim, hds, hR⟩ := hrel
      have HB := Lib.hid hR.out.1
      have HST := Lib.hid hR.out.2.1
      have HXB := Lib.hid hR.out.2.2.1
      have HA := Lib.hid hR.out.2.2.2
      clear hR H0
      obtain ⟨c0, c1, -, -⟩ := HXB.out
      by_cases h12 : b' - a' ≤ 12
      · have h12z : (b' : Int) - (a' : Int) ≤ 12 := by omega
        go_wp2_with fail
        refine (SwB.ins_calls E a' b' dk _ HST.out.sw hds hab' hb').mono ?_
        rintro e w1 ⟨rfl, st1⟩
        have S1 := Lib.hid st1
        clear st1
        go_wp2_with fail
        (first | go_end0 | ((try simp only [Exit.inBlock, Exit.then]); refine bodyPost_ret (results_none rfl _ _ _) rfl ?_))
        refine ⟨rfl, ?_⟩
        rw [← HA.out, pdq_small h12]
        exact HST.out.trans S1.out
      · have h12z : ¬ ((b' : Int) - (a' : Int) ≤ 12) := by omega
        by_cases hl0 : lim = 0
        · have hl0z : ((lim : Int) == 0) = true := by rw [hl0]; rfl
          have HL := Lib.hid hl0
          clear hl0
          go_wp2_with fail
          refine (SwD.heap_calls E a' b' dk _ HST.out.sw hds (by omega) hb').mono ?_
          rintro e w1 ⟨rfl, st1⟩
          have S1 := Lib.hid st1
          clear st1
          go_wp2_with fail
          (first | go_end0 | ((try simp only [Exit.inBlock, Exit.then]); refine bodyPost_ret (results_none rfl _ _ _) rfl ?_))
          refine ⟨rfl, ?_⟩
          rw [← HA.out, pdq_heap h12 HL.out]
          exact HST.out.trans S1.out
        · have hl0z : ((lim : Int) == 0) = false := by simp; omega
          obtain ⟨s1, B1, hc1, s2, B2, hpv, s3, B3⟩ := rd_facts (lt := lt) (limit := lim) (wb := wb) (wp := wp) hO partialInsertionSort_holds reverseRange_holds (show a' < b' by omega) (show b' ≤ dk.size by omega) HB.out
          have HB1 := Lib.hid B1
          have HB2 := Lib.hid B2
          have HB3 := Lib.hid B3
          rw [hds] at s1 s2 s3
          clear B1 B2 B3
          go_upto_if 35 with fail
          go_cut [3] (fun s3 wc => s3 = .int .i64 ((rd lt dk a' b' lim wb wp).lim : Nat) ∧ Hid (St enc k blk off w0 W (rd lt dk a' b' lim wb wp).d1 wc ∧ Bx W.heap.size (.func (.func g) #[] lb) (.func (.func sf) #[] sb) blk wc))
          case first =>
            cases wb
            · go_wp2_with fail
              refine (brk_calls E a' b' dk _ HST.out.sw hds hab' hb').mono ?_
              rintro e w1 ⟨rfl, st1⟩
              have S1 := Lib.hid st1
              clear st1
              go_wp2_with fail
              go_meet
              case rel =>
                refine ⟨?_, Lib.hid ⟨HST.out.trans S1.out, HXB.out.only S1.out.on⟩⟩
                show Value.int .i64 ((lim : Int) - 1) = Value.int .i64 ((lim - 1 : Nat) : Int)
                congr 1
                omega
            · go_wp2_with fail
              go_meet
              case rel => exact ⟨rfl, Lib.hid ⟨HST.out, HXB.out⟩⟩
          case rest =>
            obtain ⟨rfl, hC1⟩ := hcut
            clear c0 c1
            obtain ⟨c0, c1, -, -⟩ := hC1.out.2
            go_wp2_with fail
            refine (choose_calls E a' b' _ hC1.out.1.sw s1 (by omega) hb').mono ?_
            rintro e w2 ⟨rfl, st2⟩
            obtain ⟨hcd, hc1'⟩ := code_of (lt := lt) (d := (rd lt dk a' b' lim wb wp).d1) (show 12 < b' - a' by omega)
            rw [← hcd, ← hc1']
            have S2 := Lib.hid (And.intro (hC1.out.1.trans st2) (hC1.out.2.only st2.on))
            clear st2 c0 c1 hcd hc1'
            obtain ⟨c0, c1, -, -⟩ := S2.out.2
            obtain ⟨ci, hci⟩ : ∃ ci, ci = (choosePivot lt (rd lt dk a' b' lim wb wp).d1 a' b').1 := ⟨_, rfl⟩
            obtain ⟨cd, hcd⟩ : ∃ cd, cd = hintCode (choosePivot lt (rd lt dk a' b' lim wb wp).d1 a' b').2 := ⟨_, rfl⟩
            rw [← hci, ← hcd]
            have hcb : a' ≤ ci ∧ ci < b' := by rw [hci]; exact hc1
            have HCI := Lib.hid hci
            have HCD := Lib.hid hcd
            clear hci hcd hc1
            go_upto_if 50 with fail
            go_cut [11, 12] (fun s11 s12 wc => s11 = .int .i64 ((rd lt dk a' b' lim wb wp).pivot : Nat) ∧ s12 = .int .i64 (hintCode (rd lt dk a' b' lim wb wp).hint) ∧ Hid (St enc k blk off w0 W (rd lt dk a' b' lim wb wp).d2 wc ∧ Bx W.heap.size (.func (.func g) #[] lb) (.func (.func sf) #[] sb) blk wc))
            case first =>
              by_cases hh : (rd lt dk a' b' lim wb wp).c.2 = .decreasing
              · have hcode : (cd == 2) = true := by rw [HCD.out]; show (hintCode (rd lt dk a' b' lim wb wp).c.2 == 2) = true; rw [hh]; rfl
                obtain ⟨e2, epv, eht⟩ := rd_dec hh
                have E2 := Lib.hid (And.intro e2 (And.intro epv eht))
                clear e2 epv eht hh
                go_wp2_with fail
                refine (rev_calls E a' b' _ _ S2.out.1.sw s1 hab' hb').mono ?_
                rintro e w3 ⟨rfl, st3⟩
                have S3 := Lib.hid st3
                clear st3
                go_wp2_with fail
                go_meet
                case rel =>
                  refine ⟨?_, by rw [E2.out.2.2]; rfl, Lib.hid ⟨by rw [E2.out.1]; exact S2.out.1.trans S3.out, S2.out.2.only S3.out.on⟩⟩
                  rw [E2.out.2.1]
                  have : (rd lt dk a' b' lim wb wp).c.1 = ci := HCI.out.symm
                  rw [this]
                  congr 1
                  omega
              · have hcode : (cd == 2) = false := by
                  rw [HCD.out]
                  show (hintCode (rd lt dk a' b' lim wb wp).c.2 == 2) = false
                  cases hx : (rd lt dk a' b' lim wb wp).c.2 <;> first | rfl | exact absurd hx hh
                obtain ⟨e2, epv, eht⟩ := rd_not hh
                have E2 := Lib.hid (And.intro e2 (And.intro epv eht))
                clear e2 epv eht hh
                go_wp2_with fail
                go_meet
                case rel => exact ⟨by rw [E2.out.2.1, HCI.out]; rfl, by rw [E2.out.2.2, HCD.out]; rfl, Lib.hid ⟨by rw [E2.out.1]; exact S2.out.1, S2.out.2⟩⟩
            case rest =>
              obtain ⟨rfl, rfl, hC3⟩ := hcut
              clear c0 c1 hcb
              obtain ⟨c0, c1, -, -⟩ := hC3.out.2
              go_upto_region 16 with fail
              go_cut [12, 68] (fun s12 s68 wx => s12 = .int .i64 (hintCode (rd lt dk a' b' lim wb wp).hint) ∧ s68 = .bool (wb && wp && decide ((rd lt dk a' b' lim wb wp).hint = .increasing)) ∧ wx = wc)
              case first =>
                cases wb <;> cases wp <;> cases hh3 : (rd lt dk a' b' lim _ _).hint <;>
                  (have hcode3 := congrArg hintCode hh3
                   simp only [hintCode] at hcode3
                   go_wp2_with fail
                   go_meet
                   exact ⟨by simp [hh3, hintCode], by simp [hh3, hintCode], rfl⟩)
              case rest =>
                obtain ⟨rfl, rfl, rfl⟩ := hcut
                go_upto_if 68 with fail
                go_cut [] (fun wx => (rd lt dk a' b' lim wb wp).pi.2 = false ∧ Hid (St enc k blk off w0 W (rd lt dk a' b' lim wb wp).pi.1 wx ∧ Bx W.heap.size (.func (.func g) #[] lb) (.func (.func sf) #[] sb) blk wx))
                case first =>
                  cases h68 : (wb && wp && decide ((rd lt dk a' b' lim wb wp).hint = .increasing))
                  · have epi := rd_pi_no h68
                    have EPI := Lib.hid epi
                    clear epi
                    go_wp2_with fail
                    go_meet
                    case rel => exact ⟨by rw [EPI.out], Lib.hid ⟨by rw [EPI.out]; exact hC3.out.1, hC3.out.2⟩⟩
                  · have epi := rd_pi_yes h68
                    have EPI := Lib.hid epi
                    clear epi
                    go_wp2_with fail
                    refine (SwG.partial_calls E a' b' _ _ hC3.out.1.sw s2 (by omega) hb').mono ?_
                    rintro e w4 ⟨rfl, st4⟩
                    rw [← EPI.out] at st4 ⊢
                    have S4 := Lib.hid st4
                    clear st4
                    cases hp2 : (rd lt dk a' b' lim wb wp).pi.2
                    · have HP2 := Lib.hid hp2
                      clear hp2
                      go_wp2_with fail
                      go_meet
                      case rel => exact ⟨HP2.out, Lib.hid ⟨hC3.out.1.trans S4.out, hC3.out.2.only S4.out.on⟩⟩
                    · have HP2 := Lib.hid hp2
                      clear hp2
                      go_wp2_with fail
                      (first | go_end0 | ((try simp only [Exit.inBlock, Exit.then]); refine bodyPost_ret (results_none rfl _ _ _) rfl ?_))
                      refine ⟨rfl, ?_⟩
                      rw [← HA.out, pdq_done h12 hl0 HP2.out]
                      exact hC3.out.1.trans S4.out
                case rest =>
                  obtain ⟨hp2, hC5⟩ := hcut
                  clear c0 c1
                  obtain ⟨c0, c1, -, -⟩ := hC5.out.2
                  have HP2 := Lib.hid hp2
                  clear hp2
                  obtain ⟨d5, hd5⟩ : ∃ d5, d5 = (rd lt dk a' b' lim wb wp).pi.1 := ⟨_, rfl⟩
                  obtain ⟨pv, hpv'⟩ : ∃ pv, pv = (rd lt dk a' b' lim wb wp).pivot := ⟨_, rfl⟩
                  have s5 : d5.size = size := by rw [hd5]; exact s3
                  have hpv1 : a' ≤ pv ∧ pv < b' := by rw [hpv']; exact hpv
                  rw [← hpv']
                  have HD5 := Lib.hid hd5
                  have HPV := Lib.hid hpv'
                  have st5 := hC5.out.1
                  rw [← hd5] at st5
                  have S5 := Lib.hid st5
                  have HBl := Lib.hid (show Below lt a' b' d5 by rw [hd5]; exact HB3.out)
                  clear st5 hd5 hpv' hpv
                  obtain ⟨hp1, hp2⟩ := hpv1
                  go_upto_region 18 with fail
                  go_cut [83] (fun s83 wx => s83 = .bool (decide (a' > 0) && !lt d5[a' - 1]! d5[pv]!) ∧ Hid (St enc k blk off w0 W d5 wx ∧ Bx W.heap.size (.func (.func g) #[] lb) (.func (.func sf) #[] sb) blk wx))
                  case first =>
                    rcases Nat.eq_zero_or_pos a' with ha0 | ha0
                    · have ha0z : ¬ (0 : Int) < (a' : Int) := by omega
                      have hd : decide (a' > 0) = false := decide_eq_false (by omega)
                      have HD := Lib.hid hd
                      clear ha0 hd
                      go_wp2_with fail
                      go_meet
                      case rel => exact ⟨by rw [HD.out]; rfl, Lib.hid ⟨S5.out, hC5.out.2⟩⟩
                    · obtain ⟨n, hn⟩ : ∃ n, a' - 1 = n := ⟨_, rfl⟩
                      have hnz : (a' : Int) - 1 = (n : Int) := by omega
                      have ha0z : (0 : Int) < (a' : Int) := by omega
                      have hl := E.less wc d5 S5.out.sw s5 n pv (by omega) (by omega)
                      have hd : decide (a' > 0) = true := decide_eq_true (by omega)
                      have HD := Lib.hid (And.intro hd hn)
                      clear ha0 hd hn
                      go_wp2_with (go_at_fn g; refine hl.mono ?_; rintro e w1 ⟨rfl, q, os, hw1⟩; have st1 := Lib.hid (show St enc k blk off w0 W d5 w1 by rw [hw1]; exact S5.out.grow q os); have x1 := Lib.hid (hC5.out.2.only (show Only (fun b => b = blk) wc w1 by rw [hw1]; exact only_grow _ q os)); clear hw1)
                      all_goals
                        go_meet
                        case rel => exact ⟨by rw [HD.out.1, HD.out.2]; rfl, Lib.hid ⟨st1.out, x1.out⟩⟩
                  case rest =>
                    obtain ⟨rfl, hC6⟩ := hcut
                    clear c0 c1
                    obtain ⟨c0, c1, -, -⟩ := hC6.out.2
                    cases h87 : (decide (a' > 0) && !lt d5[a' - 1]! d5[pv]!)
                    · have H87 := Lib.hid h87
                      clear h87
                      obtain ⟨mid, ap, d6, hx⟩ : ∃ mid ap d6, partition lt d5 a' b' pv = (mid, ap, d6) := ⟨(partition lt d5 a' b' pv).1, (partition lt d5 a' b' pv).2.1, (partition lt d5 a' b' pv).2.2, rfl⟩
                      obtain ⟨r1, r2, r3, r4, r5, r6, r7⟩ := round_part hO (partition_holds lt) hp1 hp2 (show b' ≤ d5.size by omega) HBl.out hx
                      rw [s5] at r3
                      have R := Lib.hid (And.intro r4 (And.intro r5 (And.intro r6 r7)))
                      clear r4 r5 r6 r7
                      have hpart := SwI.part_calls E a' b' pv d5 wc hC6.out.1.sw s5 hp1 hp2 hb'
                      rw [hx] at hpart
                      have HX := Lib.hid hx
                      clear hx
                      go_wp2_with fail
                      refine hpart.mono ?_
                      clear hpart
                      rintro e w7 ⟨rfl, st7⟩
                      have S7 := Lib.hid (And.intro (hC6.out.1.trans st7) (hC6.out.2.only st7.on))
                      clear st7 c0 c1
                      obtain ⟨c0, c1, -, -⟩ := S7.out.2
                      go_upto_if 109 with fail
                      by_cases h4 : mid - a' < b' - mid
                      · have h4z : (mid : Int) - (a' : Int) < (b' : Int) - (mid : Int) := by omega
                        have hih := ih a' mid (rd lt dk a' b' lim wb wp).lim d6 w7 (by omega) S7.out.1.sw r3 (by omega) (by omega) (Nat.lt_of_le_of_lt (Nat.le_trans rd_lim_le hlim) hlimit) R.out.1
                        obtain ⟨pL, sL⟩ := pdq_sorts lt hO d6 a' mid (rd lt dk a' b' lim wb wp).lim true true (by omega) (by omega) R.out.1
                        have HPL := Lib.hid (And.intro pL sL)
                        clear pL sL
                        go_wp2_with fail
                        refine hih.mono ?_
                        clear hih ih
                        rintro e w8 ⟨rfl, st8⟩
                        have S8 := Lib.hid (And.intro (S7.out.1.trans st8) (S7.out.2.only st8.on))
                        clear st8
                        go_wp2_with fail
                        go_roundg (b' - (mid + 1))
                        case measure => omega
                        case rel =>
                          refine ⟨mid + 1, b', (rd lt dk a' b' lim wb wp).lim, decide (mid - a' ≥ (b' - a') / 8), ap, pdq lt d6 a' mid (rd lt dk a' b' lim wb wp).lim true true, by simp, rfl, rfl, ?_, rfl, by omega, by omega, Nat.le_refl _, by omega, Nat.le_trans rd_lim_le hlim, by rw [HPL.out.1.1]; exact r3, Lib.hid ⟨(R.out.2.2.1 _ HPL.out.1 HPL.out.2).1, S8.out.1, S8.out.2, ?_⟩⟩
                          · exact congrArg Value.bool (eighth (by omega) (by omega))
                          · have hx := HX.out
                            have h87 := H87.out
                            rw [HD5.out, HPV.out] at hx h87
                            rw [← HA.out, pdq_left h12 hl0 HP2.out h87 (by rw [hx]; exact ⟨r1, r2⟩) (by rw [hx]; exact h4), hx]
                      · have h4z : ¬ ((mid : Int) - (a' : Int) < (b' : Int) - (mid : Int)) := by omega
                        obtain ⟨m1, hm1⟩ : ∃ m1, mid + 1 = m1 := ⟨_, rfl⟩
                        have hm1z : (mid : Int) + 1 = (m1 : Int) := by omega
                        have r5 := R.out.2.1
                        rw [hm1] at r5
                        have hih := ih m1 b' (rd lt dk a' b' lim wb wp).lim d6 w7 (by omega) S7.out.1.sw r3 (by omega) (by omega) (Nat.lt_of_le_of_lt (Nat.le_trans rd_lim_le hlim) hlimit) r5
                        obtain ⟨pL, sL⟩ := pdq_sorts lt hO d6 m1 b' (rd lt dk a' b' lim wb wp).lim true true (by omega) (by omega) r5
                        have HPL := Lib.hid (And.intro pL sL)
                        have HM1 := Lib.hid hm1
                        clear pL sL r5 hm1
                        go_wp2_with fail
                        refine hih.mono ?_
                        clear hih ih
                        rintro e w8 ⟨rfl, st8⟩
                        have S8 := Lib.hid (And.intro (S7.out.1.trans st8) (S7.out.2.only st8.on))
                        clear st8
                        go_wp2_with fail
                        go_roundg (mid - a')
                        case measure => omega
                        case rel =>
                          have hm1 := HM1.out
                          subst hm1
                          refine ⟨a', mid, (rd lt dk a' b' lim wb wp).lim, decide (b' - mid ≥ (b' - a') / 8), ap, pdq lt d6 (mid + 1) b' (rd lt dk a' b' lim wb wp).lim true true, rfl, rfl, rfl, ?_, rfl, by omega, by omega, Nat.le_refl _, by omega, Nat.le_trans rd_lim_le hlim, by rw [HPL.out.1.1]; exact r3, Lib.hid ⟨(R.out.2.2.2 _ HPL.out.1 HPL.out.2).1, S8.out.1, S8.out.2, ?_⟩⟩
                          · exact congrArg Value.bool (eighth (by omega) (by omega))
                          · have hx := HX.out
                            have h87 := H87.out
                            rw [HD5.out, HPV.out] at hx h87
                            rw [← HA.out, pdq_right h12 hl0 HP2.out h87 (by rw [hx]; exact ⟨r1, r2⟩) (by rw [hx]; exact h4), hx]
                    · have h87' := h87
                      simp only [Bool.and_eq_true, decide_eq_true_eq, Bool.not_eq_true'] at h87'
                      have H87 := Lib.hid h87
                      clear h87
                      obtain ⟨mid, d6, hx⟩ : ∃ mid d6, partitionEqual lt d5 a' b' pv = (mid, d6) := ⟨(partitionEqual lt d5 a' b' pv).1, (partitionEqual lt d5 a' b' pv).2, rfl⟩
                      obtain ⟨r1, r2, r3, r4, _⟩ := round_eq hO (partitionEqual_holds lt) h87'.1 hp1 hp2 (show b' ≤ d5.size by omega) HBl.out h87'.2 hx
                      rw [s5] at r3
                      have R := Lib.hid r4
                      clear r4 h87'
                      have hpart := SwH.partEq_calls E a' b' pv d5 wc hC6.out.1.sw s5 hp1 hp2 hb'
                      rw [hx] at hpart
                      have HX := Lib.hid hx
                      clear hx ih
                      go_wp2_with fail
                      refine hpart.mono ?_
                      clear hpart
                      rintro e w7 ⟨rfl, st7⟩
                      have S7 := Lib.hid (And.intro (hC6.out.1.trans st7) (hC6.out.2.only st7.on))
                      clear st7 c0 c1
                      go_wp2_with fail
                      go_roundg (b' - mid)
                      case measure => omega
                      case rel =>
                        have hx := HX.out
                        have h87 := H87.out
                        rw [HD5.out, HPV.out] at hx h87
                        exact ⟨mid, b', (rd lt dk a' b' lim wb wp).lim, wb, wp, d6, rfl, rfl, rfl, rfl, rfl, r2, hb', Nat.le_refl _, by omega, Nat.le_trans rd_lim_le hlim, r3, Lib.hid ⟨R.out, S7.out.1, S7.out.2, by rw [← HA.out, pdq_eq h12 hl0 HP2.out h87 (by rw [hx]; exact ⟨r1, r2⟩), hx]⟩⟩
end
end Go.Proofs.YtakhcfemakapbaaGreatDoor.SwJ
