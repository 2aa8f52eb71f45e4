/-
  RankPops. Conditions: as stated.
-/
import Derived.Test.YtakhcfemakapbaaGreatDoorRjS
set_option maxRecDepth 100000
set_option linter.unusedSimpArgs false
set_option linter.unusedVariables false
namespace Go.Proofs.YtakhcfemakapbaaGreatDoor.RjT
open Go Go.RowKit Go.Shelf Go.Sort Go.Proofs.YtakhcfemakapbaaGreatDoor.Mem Go.Proofs.YtakhcfemakapbaaGreatDoor.DuA Go.Proofs.YtakhcfemakapbaaGreatDoor.DuM Go.Proofs.YtakhcfemakapbaaGreatDoor.DuN Go.Proofs.YtakhcfemakapbaaGreatDoor.NumA Go.Proofs.YtakhcfemakapbaaGreatDoor.NumC Go.Proofs.YtakhcfemakapbaaGreatDoor.NumE Go.Proofs.YtakhcfemakapbaaGreatDoor.RkA Go.Proofs.YtakhcfemakapbaaGreatDoor.RkC Go.Proofs.YtakhcfemakapbaaGreatDoor.RkB Go.Proofs.YtakhcfemakapbaaGreatDoor.RkE Go.Proofs.YtakhcfemakapbaaGreatDoor.RkF Go.Proofs.YtakhcfemakapbaaGreatDoor.RkH Go.Proofs.YtakhcfemakapbaaGreatDoor.RkI Go.Proofs.YtakhcfemakapbaaGreatDoor.RkL Go.Proofs.YtakhcfemakapbaaGreatDoor.RkM Go.Proofs.YtakhcfemakapbaaGreatDoor.RkN Go.Proofs.YtakhcfemakapbaaGreatDoor.RkO Go.Proofs.YtakhcfemakapbaaGreatDoor.RkP Go.Proofs.YtakhcfemakapbaaGreatDoor.RkQ Go.Proofs.YtakhcfemakapbaaGreatDoor.RkR Go.Proofs.YtakhcfemakapbaaGreatDoor.RkS Go.Proofs.YtakhcfemakapbaaGreatDoor.RkU Go.Proofs.YtakhcfemakapbaaGreatDoor.RkW Go.Proofs.YtakhcfemakapbaaGreatDoor.RjJ Go.Proofs.YtakhcfemakapbaaGreatDoor.RjK Go.Proofs.YtakhcfemakapbaaGreatDoor.RjL Go.Proofs.YtakhcfemakapbaaGreatDoor.RjM Go.Proofs.YtakhcfemakapbaaGreatDoor.RjN Go.Proofs.YtakhcfemakapbaaGreatDoor.RjO Go.Proofs.YtakhcfemakapbaaGreatDoor.RjQ Go.Proofs.YtakhcfemakapbaaGreatDoor.RjS

theorem rd_cells {w : World} {ad : Addr} {n c i : Nat} {l : List En} {x : En} (r : RdE w (some ad) n c l) (hx : l[i]? = some x) : w.cell? (ad.add (i * 2)) = some (.string x.2) ∧ w.cell? ⟨(ad.add (i * 2)).block, (ad.add (i * 2)).off + 1, none⟩ = some (.int .i64 x.1) := by
  obtain ⟨p, e, h1, h2⟩ := rde_get r hx
  injection e with e
  subst e
  exact ⟨h1, h2⟩
set_option maxHeartbeats 1000000 in
theorem popsLaw_calls (A : Option Addr) (nn c : Nat) (l : List En) (n k : Int) (W : World) (hr : RdE W A nn c l) (hg : Gd l) (hn : nn ≤ 1048576) (hin : inI n) (hik : inI k) (hL : Laid W) :
    Calls Tryz.prog 8 #[.slice A nn c, .int .i64 n, .int .i64 k] W fun e w' => e = .returned (.bool true) ∧ Below W.heap.size W w' := by
  obtain rfl := rde_len hr
  have htw := twin_calls A l.length c l W hr (sm hn)
  have HR := Lib.hid (And.intro hr (And.intro hg.ok hL))
  have HN := Lib.hid (sm hn)
  have HI := Lib.hid (And.intro hin hik)
  clear hr hg hL hin hik
  by_cases hS : allS l
  · by_cases hD : (l.map (·.2)).Nodup
    · have hlm := len_ofL hD
      have hsm := (of_facts hD).1
      have hmS : allS (ofL l) := fun e he => hS e ((of_facts hD).2.mem_iff.1 he)
      have hmk : ∀ e ∈ ofL l, okk e.2 := fun e he => HR.out.2.1 e ((of_facts hD).2.mem_iff.1 he)
      have hof : Hid (∀ (A1 : Option Addr) (c1 : Nat) w, RdE w A1 l.length c1 l → Calls Tryz.prog 11 #[.slice A1 l.length c1] w fun e w' => ∃ g m, e = .returned (.tuple #[.pointer (some ⟨g, 0, none⟩), .int .i64 0]) ∧ Ps w w' g m (ofL l) l.length) := Lib.hid (fun A1 c1 w hr => of_ok A1 l.length c1 l w hr HR.out.2.1 HN.out hS hD)
      obtain ⟨M, hM⟩ : ∃ M, M = ofL l := ⟨_, rfl⟩
      rw [← hM] at hlm hof hsm hmS hmk
      obtain ⟨T1, T2, nC, a, b, C, pp⟩ := pops_facts M n k
      have hLl := hn
      rw [← hlm] at hLl
      obtain ⟨LM, hLM⟩ : ∃ LM, M.length = LM := ⟨_, rfl⟩
      have ht1 := pp.t1
      have hsum := pp.sum
      rw [hLM] at ht1 hsum hLl
      have HLM := Lib.hid hLM
      have HP := Lib.hid pp
      have HM := Lib.hid (And.intro hsm (And.intro hmS hmk))
      have hs1 : (T1 : Int) + (T2 : Int) + (nC : Int) = (LM : Int) := by omega
      have hb1 : T1 ≤ 1048576 := by omega
      have hb2 : T2 ≤ 1048576 := by omega
      have hb3 : nC ≤ 1048576 := by omega
      have HSUM := Lib.hid hsum
      have hmin : max (0 : Int) (min n (LM : Int)) = (T1 : Int) := ht1
      clear hS hD hM hsm pp hlm hmS hmk hLM hsum ht1
      go_enter Tryz.func8, Tryz.ntmps8
      go_wp2_with fail
      refine htw.mono ?_
      clear htw
      rintro e w1 ⟨v1, rfl, o1, b1⟩
      obtain ⟨A1, c1, rfl, r1⟩ := own_rd o1
      have h := hof.out A1 c1 w1 r1
      have HB1 := Lib.hid b1
      clear o1 r1 b1 hof
      go_wp2_with fail
      refine Calls.mono h ?_
      clear h
      rintro e w2 ⟨g, m, rfl, P2⟩
      have HP2 := Lib.hid (Pr.of (Ps.base P2 HB1.out))
      clear P2
      have h := HP2.out.list HN.out LM HLM.out
      go_wp2_with fail
      refine Calls.mono h ?_
      clear h
      rintro e w3 ⟨AM, cM, rfl, P3⟩
      have HP3 := Lib.hid P3
      clear P3
      have h := HP3.out.pop n false HI.out.1 HN.out a T1 HP.out.pa HP.out.la HP.out.l1
      go_wp2_with fail
      refine Calls.mono h ?_
      clear h
      rintro e w4 ⟨Aa, ca, rfl, P4⟩
      have HP4 := Lib.hid P4
      clear P4
      have h := HP4.out.pop k true HI.out.2 HN.out b T2 HP.out.pb HP.out.lb HP.out.l2
      go_wp2_with fail
      refine Calls.mono h ?_
      clear h
      rintro e w5 ⟨Ab, cb, rfl, P5⟩
      have HP5 := Lib.hid P5
      clear P5
      have h := HP5.out.list HN.out nC HP.out.lc
      go_wp2_with fail
      refine Calls.mono h ?_
      clear h
      rintro e w6 ⟨AC, cC, rfl, P6⟩
      have HP6 := Lib.hid P6
      have hrM : RdE w6 AM LM cM M := P6.rd (AM, LM, cM, M) (by simp)
      have hcap : LM ≤ cM := hrM.cap
      have hq1 := fun W => cut_pre AM LM cM T1 (by omega) W
      have hq2 := fun W => cut_mid AM LM cM T1 nC (by omega) W
      have hr1 : RdE w6 AM T1 cM a := by rw [HP.out.aM]; exact rde_take hrM (by omega)
      have hr2 : RdE w6 (if cM = T1 then AM else AM.map (·.add (T1 * 2))) nC (cM - T1) C := by
        have := rde_take (rde_drop hrM (k := T1) (by omega)) (k := nC) (by omega)
        rwa [HP.out.cM] at this
      obtain ⟨A7, hA7⟩ : ∃ A7, A7 = (if cM = T1 then AM else AM.map (·.add (T1 * 2))) := ⟨_, rfl⟩
      obtain ⟨c7, hc7⟩ : ∃ c7, c7 = cM - T1 := ⟨_, rfl⟩
      rw [← hA7, ← hc7] at hr2
      simp only [← hA7, ← hc7] at hq2
      have k1 : Calls Tryz.prog 13 #[.slice Aa T1 ca, .slice AM T1 cM] w6 fun e w' => e = .returned (.bool true) ∧ Below w6.heap.size w6 w' := same_true Aa AM T1 ca T1 cM a a w6 (P6.rd (Aa, T1, ca, a) (by simp)) hr1 (by omega) rfl
      have k2 : Hid (∀ w, Below w6.heap.size w6 w → Calls Tryz.prog 13 #[.slice AC nC cC, .slice A7 nC c7] w fun e w' => e = .returned (.bool true) ∧ Below w.heap.size w w') := Lib.hid (fun w hb => same_true AC A7 nC cC nC c7 C C w ((P6.rd (AC, nC, cC, C) (by simp)).below hb) (hr2.below hb) (by omega) rfl)
      clear P6 hrM hr1 hr2 hA7 hc7
      go_wp2_with fail
      refine k1.mono ?_
      clear k1
      rintro e w7 ⟨rfl, b7⟩
      have h := k2.out w7 b7
      have HB7 := Lib.hid b7
      clear b7 k2
      go_wp2_with fail
      refine Calls.mono h ?_
      clear h
      rintro e w8 ⟨rfl, b8⟩
      have HP8 := Lib.hid ((HP6.out.below HB7.out).below b8)
      clear b8 hq1 hq2 HB7 HP6 HP5 HP4 HP3 HP2 hmin hs1
      obtain ⟨R, hR⟩ : ∃ R : List Row, R = [(AC, nC, cC, C), (Ab, T2, cb, b), (Aa, T1, ca, a), (AM, LM, cM, M)] := ⟨_, rfl⟩
      rw [← hR] at HP8
      have hRb : (Ab, T2, cb, b) ∈ R := by rw [hR]; simp
      have hRa : (Aa, T1, ca, a) ∈ R := by rw [hR]; simp
      have hRM : (AM, LM, cM, M) ∈ R := by rw [hR]; simp
      have HRR := Lib.hid (And.intro hRb (And.intro hRa hRM))
      clear hR hRb hRa hRM
      go_wp2_with fail
      go_loopw [15] (fun iv wr => ∃ j : Nat, iv = .int .i64 j ∧ j ≤ T2 ∧ Hid (Pr W wr g m (C ++ M.drop (LM - j)) (l.length + j) R)) (fun iv _ => T2 - (intOf iv).toNat)
      case atStart => exact ⟨0, rfl, Nat.zero_le _, by
        have h0 : M.drop (LM - 0) = [] := by rw [Nat.sub_zero, ← HLM.out, List.drop_length]
        rw [h0, List.append_nil]
        exact HP8⟩
      case round =>
        clear HP8
        obtain ⟨j, rfl, hj, HX⟩ := hrel
        by_cases hlt : j < T2
        · obtain ⟨x, hx⟩ : ∃ x, b[j]? = some x := ⟨_, List.getElem?_eq_getElem (by rw [HP.out.lb]; exact hlt)⟩
          have hxM := HP.out.bM j x hx
          rw [HLM.out] at hxM
          obtain ⟨q, hq⟩ : ∃ q, q = LM - 1 - j := ⟨_, rfl⟩
          rw [← hq] at hxM
          have hqL : q + 1 = LM - j := by have := HSUM.out; omega
          obtain ⟨ad, had, x0, x1⟩ := rde_get (show RdE wr Ab T2 cb b from HX.out.rd _ HRR.out.1) hx
          obtain ⟨ad', had', y0, y1⟩ := rde_get (show RdE wr AM LM cM M from HX.out.rd _ HRR.out.2.2) hxM
          subst had had'
          have hnx := set_next HM.out.1 (sub_mid M T1 nC (LM - j) (by have := HSUM.out; omega)) (sub_mid M T1 nC q (by have := HSUM.out; omega)) (by rw [← hqL]; exact perm_mid hxM) (HM.out.2.1 x (List.mem_of_getElem? hxM))
          rw [HP.out.cM] at hnx
          have hst : Hid (∀ w, Below wr.heap.size wr w → Calls Tryz.prog 27 #[.pointer (some ⟨g, 0, none⟩), .string x.2, .int .i64 x.1] w fun e w' => e = .returned (.tuple #[.bool true, .int .i64 0]) ∧ Pr W w' g m (C ++ M.drop q) (l.length + j + 1) R) := Lib.hid (fun w hb => by
            have := (HX.out.below hb).set x.2 x.1 (HM.out.2.2 x (List.mem_of_getElem? hxM)) (by have := HN.out; omega)
            rw [hnx.1, hnx.2] at this
            exact this)
          have hneq := fun W => neq_self x W
          have hka : ((LM : Int) - 1 - (j : Int)) = (q : Int) := by omega
          have hkb : IntKind.i64.wrap ((LM : Int) - 1) = (LM : Int) - 1 := by rw [IntKind.wrap_i64]; omega
          have hkc : IntKind.i64.wrap ((LM : Int) - 1 - (j : Int)) = (q : Int) := by rw [hka, IntKind.wrap_i64]; omega
          have hkd : IntKind.i64.wrap (q : Int) = (q : Int) := by rw [IntKind.wrap_i64]; omega
          have hql : q < LM := by omega
          have hq0 : (0 : Int) ≤ (q : Int) := by omega
          have hql2 : (q : Int) < (LM : Int) := by omega
          have hjl2 : (j : Int) < (T2 : Int) := by omega
          have hqe : Hid (q = LM - (j + 1)) := by show _ = _; omega
          have HBX := Lib.hid hx
          clear hx hxM hnx hq hqL
          go_upto_region 14 with fail
          go_quiet (fail)
          have HBq : Hid (Below wr.heap.size wr ((wr.drewN nq).drewN 1)) := Lib.hid (below_drawn_ (below_drawn_ (Below.refl wr.heap.size wr) nq) 1)
          go_upto_region 16 with fail
          go_region_held3 (fun w' => w'.cell? (ad.add (j * 2)) = some (.string x.2) ∧ w'.cell? ⟨(ad.add (j * 2)).block, (ad.add (j * 2)).off + 1, none⟩ = some (.int .i64 x.1))
            (first | exact ⟨x0, x1⟩ | assumption)
            (first
              | (go_at_call 27; refine (hst.out _ HBq.out).mono ?_; rintro e w9 ⟨rfl, P9⟩; have q9 : w9.cell? (ad.add (j * 2)) = some (.string x.2) ∧ w9.cell? ⟨(ad.add (j * 2)).block, (ad.add (j * 2)).off + 1, none⟩ = some (.int .i64 x.1) := rd_cells (P9.rd _ HRR.out.1) HBX.out))
          have HP9 := Lib.hid P9
          clear P9 q9 x0 x1 y0 y1
          go_wp2_with fail
          exact ⟨⟨j + 1, by go_num, by omega, by have h9 := HP9.out; rw [hqe.out] at h9; exact Lib.hid h9⟩, by simp [intOf]; omega⟩
        · obtain rfl : j = T2 := by omega
          have hst0 : C ++ M.drop (LM - j) = M.take 0 ++ M.drop T1 := by
            have h1 := HSUM.out
            rw [← HP.out.cM, show LM - j = T1 + nC by omega, ← List.drop_drop, List.take_append_drop]
            rfl
          have hX := HX.out
          rw [hst0] at hX
          have HX2 := Lib.hid hX
          clear hst0 hX HX
          go_wp2_with fail
          go_loopw [18] (fun iv wr => ∃ i : Nat, iv = .int .i64 i ∧ i ≤ T1 ∧ Hid (Pr W wr g m (M.take i ++ M.drop T1) (l.length + j + i) R)) (fun iv _ => T1 - (intOf iv).toNat)
          case atStart => exact ⟨0, rfl, Nat.zero_le _, HX2⟩
          case round =>
            clear HX2
            obtain ⟨i, rfl, hi, HX⟩ := hrel
            by_cases hlt : i < T1
            · obtain ⟨x, hx⟩ : ∃ x, a[i]? = some x := ⟨_, List.getElem?_eq_getElem (by rw [HP.out.la]; exact hlt)⟩
              have hxM : M[i]? = some x := by
                have h2 := hx
                rw [HP.out.aM, List.getElem?_take, if_pos hlt] at h2
                exact h2
              obtain ⟨ad, had, x0, x1⟩ := rde_get (show RdE wr Aa T1 ca a from HX.out.rd _ HRR.out.2.1) hx
              subst had
              have hnx := set_next HM.out.1 (sub_two M i T1 (by omega)) (sub_two M (i + 1) T1 (by omega)) (perm_take hxM) (HM.out.2.1 x (List.mem_of_getElem? hxM))
              have hst : Hid (∀ w, Below wr.heap.size wr w → Calls Tryz.prog 27 #[.pointer (some ⟨g, 0, none⟩), .string x.2, .int .i64 x.1] w fun e w' => e = .returned (.tuple #[.bool true, .int .i64 0]) ∧ Pr W w' g m (M.take (i + 1) ++ M.drop T1) (l.length + j + i + 1) R) := Lib.hid (fun w hb => by
                have := (HX.out.below hb).set x.2 x.1 (HM.out.2.2 x (List.mem_of_getElem? hxM)) (by have := HN.out; omega)
                rw [hnx.1, hnx.2] at this
                exact this)
              have hjl2 : (i : Int) < (T1 : Int) := by omega
              have HBX := Lib.hid hx
              clear hx hxM hnx
              have HBq : Hid (Below wr.heap.size wr (wr.drewN 1)) := Lib.hid (below_drawn_ (Below.refl wr.heap.size wr) 1)
              go_upto_region 22 with fail
              go_region_held3 (fun w' => w'.cell? (ad.add (i * 2)) = some (.string x.2) ∧ w'.cell? ⟨(ad.add (i * 2)).block, (ad.add (i * 2)).off + 1, none⟩ = some (.int .i64 x.1))
                (first | exact ⟨x0, x1⟩ | assumption)
                (first
                  | (go_at_call 27; refine (hst.out _ HBq.out).mono ?_; rintro e w9 ⟨rfl, P9⟩; have q9 : w9.cell? (ad.add (i * 2)) = some (.string x.2) ∧ w9.cell? ⟨(ad.add (i * 2)).block, (ad.add (i * 2)).off + 1, none⟩ = some (.int .i64 x.1) := rd_cells (P9.rd _ HRR.out.2.1) HBX.out))
              have HP9 := Lib.hid P9
              clear P9 q9 x0 x1
              go_wp2_with fail
              exact ⟨⟨i + 1, by go_num, by omega, HP9⟩, by simp [intOf]; omega⟩
            · obtain rfl : i = T1 := by omega
              have hX := HX.out
              rw [List.take_append_drop] at hX
              have h := hX.list (by have := HN.out; omega) LM HLM.out
              clear hX HX
              go_wp2_with fail
              refine Calls.mono h ?_
              clear h
              rintro e w10 ⟨A10, c10, rfl, P10⟩
              have h : Calls Tryz.prog 13 #[.slice A10 LM c10, .slice AM LM cM] w10 fun e w' => e = .returned (.bool true) ∧ Below w10.heap.size w10 w' := same_true A10 AM LM c10 LM cM M M w10 (P10.rd (A10, LM, c10, M) List.mem_cons_self) (P10.rd (AM, LM, cM, M) (List.mem_cons_of_mem _ HRR.out.2.2)) (by omega) rfl
              have HP10 := Lib.hid P10.bel
              clear P10
              go_wp2_with fail
              refine Calls.mono h ?_
              clear h
              rintro e w11 ⟨rfl, b11⟩
              have HP11 := Lib.hid (below_seq HP10.out b11)
              have h := sure_calls w11 (HR.out.2.2.below HP11.out)
              clear b11
              go_wp2_with fail
              refine Calls.mono h ?_
              clear h
              rintro e w12 ⟨rfl, b12⟩
              go_wp2_with fail
              go_ret
              exact ⟨rfl, below_seq HP11.out b12⟩
    · have HSD := Lib.hid (And.intro hS hD)
      clear hS hD
      go_enter Tryz.func8, Tryz.ntmps8
      go_wp2_with fail
      refine htw.mono ?_
      clear htw
      rintro e w1 ⟨v1, rfl, o1, b1⟩
      obtain ⟨A1, c1, rfl, r1⟩ := own_rd o1
      have h := of_twice A1 l.length c1 l w1 HR.out.2.1 HN.out HSD.out.1 HSD.out.2 r1
      have HB1 := Lib.hid b1
      clear o1 r1 b1
      go_wp2_with fail
      refine Calls.mono h ?_
      clear h
      rintro e w2 ⟨rfl, b2⟩
      have HB2 := Lib.hid (below_seq HB1.out b2)
      clear b2
      have h := ofR_twice A l.length c l w2 HN.out HSD.out.1 HSD.out.2 (HR.out.1.below HB2.out)
      go_wp2_with fail
      refine Calls.mono h ?_
      clear h
      rintro e w3 ⟨rfl, b3⟩
      have HB3 := Lib.hid (below_seq HB2.out b3)
      clear b3
      have h := sure_calls w3 (HR.out.2.2.below HB3.out)
      go_wp2_with fail
      refine Calls.mono h ?_
      clear h
      rintro e w8 ⟨rfl, b8⟩
      go_wp2_with fail
      go_ret
      exact ⟨rfl, below_seq HB3.out b8⟩
  · have HSD := Lib.hid hS
    clear hS
    go_enter Tryz.func8, Tryz.ntmps8
    go_wp2_with fail
    refine htw.mono ?_
    clear htw
    rintro e w1 ⟨v1, rfl, o1, b1⟩
    obtain ⟨A1, c1, rfl, r1⟩ := own_rd o1
    have h := of_bad A1 l.length c1 l w1 r1 HR.out.2.1 HN.out HSD.out
    have HB1 := Lib.hid b1
    clear o1 r1 b1
    go_wp2_with fail
    refine Calls.mono h ?_
    clear h
    rintro e w2 ⟨rfl, b2⟩
    have HB2 := Lib.hid (below_seq HB1.out b2)
    clear b2
    have h := ofR_bad A l.length c l w2 HN.out HSD.out (HR.out.1.below HB2.out)
    go_wp2_with fail
    refine Calls.mono h ?_
    clear h
    rintro e w3 ⟨rfl, b3⟩
    have HB3 := Lib.hid (below_seq HB2.out b3)
    clear b3
    have h := sure_calls w3 (HR.out.2.2.below HB3.out)
    go_wp2_with fail
    refine Calls.mono h ?_
    clear h
    rintro e w8 ⟨rfl, b8⟩
    go_wp2_with fail
    go_ret
    exact ⟨rfl, below_seq HB3.out b8⟩
theorem pops_law (A : Option Addr) (nn c : Nat) (z : List (ByteArray × Int)) (n k : Int) (W : World) (hr : Rd W 2 A nn c (z.flatMap scF)) (hl : z.length = nn) (h1 : ∀ x ∈ z, scOK x) (h2 : (z.map scM).sum ≤ 1048576) (n0 : -9223372036854775808 ≤ n) (n1 : n ≤ 9223372036854775807) (k0 : -9223372036854775808 ≤ k) (k1 : k ≤ 9223372036854775807) (hL : Laid W) :
    Calls Tryz.prog 8 #[.slice A nn c, .int .i64 n, .int .i64 k] W fun e w' => e = .returned (.bool true) ∧ Below W.heap.size W w' :=
  popsLaw_calls A nn c (toEn z) n k W (rd_of hr) (gd_of h2) (by rw [← hl]; exact len_of h2) ⟨n0, n1⟩ ⟨k0, k1⟩ hL
end Go.Proofs.YtakhcfemakapbaaGreatDoor.RjT
