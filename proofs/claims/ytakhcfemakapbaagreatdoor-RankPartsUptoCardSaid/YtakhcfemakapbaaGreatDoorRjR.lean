/-
  RankParts. Conditions: as stated.
-/
import Derived.Test.YtakhcfemakapbaaGreatDoorRjQ
import Derived.Deep.RegionLaw
set_option maxRecDepth 100000
set_option linter.unusedSimpArgs false
set_option linter.unusedVariables false
namespace Go.Proofs.YtakhcfemakapbaaGreatDoor.RjR
open Go Go.RowKit Go.Shelf Go.Sort Go.Proofs.YtakhcfemakapbaaGreatDoor.Mem Go.Proofs.YtakhcfemakapbaaGreatDoor.DuA Go.Proofs.YtakhcfemakapbaaGreatDoor.DuM Go.Proofs.YtakhcfemakapbaaGreatDoor.DuN Go.Proofs.YtakhcfemakapbaaGreatDoor.NumA Go.Proofs.YtakhcfemakapbaaGreatDoor.NumC Go.Proofs.YtakhcfemakapbaaGreatDoor.NumE Go.Proofs.YtakhcfemakapbaaGreatDoor.RkA Go.Proofs.YtakhcfemakapbaaGreatDoor.RkC Go.Proofs.YtakhcfemakapbaaGreatDoor.RkB Go.Proofs.YtakhcfemakapbaaGreatDoor.RkE Go.Proofs.YtakhcfemakapbaaGreatDoor.RkF Go.Proofs.YtakhcfemakapbaaGreatDoor.RkH Go.Proofs.YtakhcfemakapbaaGreatDoor.RkI Go.Proofs.YtakhcfemakapbaaGreatDoor.RkL Go.Proofs.YtakhcfemakapbaaGreatDoor.RkM Go.Proofs.YtakhcfemakapbaaGreatDoor.RkN Go.Proofs.YtakhcfemakapbaaGreatDoor.RkO Go.Proofs.YtakhcfemakapbaaGreatDoor.RkP Go.Proofs.YtakhcfemakapbaaGreatDoor.RkQ Go.Proofs.YtakhcfemakapbaaGreatDoor.RkS Go.Proofs.YtakhcfemakapbaaGreatDoor.RkU Go.Proofs.YtakhcfemakapbaaGreatDoor.RkW Go.Proofs.YtakhcfemakapbaaGreatDoor.RjJ Go.Proofs.YtakhcfemakapbaaGreatDoor.RjK Go.Proofs.YtakhcfemakapbaaGreatDoor.RjL Go.Proofs.YtakhcfemakapbaaGreatDoor.RjM Go.Proofs.YtakhcfemakapbaaGreatDoor.RjN Go.Proofs.YtakhcfemakapbaaGreatDoor.RjO Go.Proofs.YtakhcfemakapbaaGreatDoor.RjQ

theorem step_enterG {P : Program} {ops : Array Oper} {o : Oper} {a : Act} {w : World} {K : Act → World → Prop} {Q : Exit → Act → World → Prop} {E : Prop} (hw : Region.wanted o (yielded ops a.tmps) = true)
    (f : FuncId) (args : Array Value) (hx : (execOp a.eval o).run P w = .ok (.enter f args) w) (h : Calls P f args w fun e w' => ∃ v, e = .returned v ∧ K (a.put o.dst v) w') : if Region.wanted o (yielded ops a.tmps) = true then Oper.wp P o a w K Q else E := by
  rw [if_pos hw]
  unfold Oper.wp
  rw [hx, Oper.upon_enter]
  refine h.mono ?_
  rintro e w' ⟨v, rfl, hK⟩
  exact hK
theorem _root_.Go.Proofs.YtakhcfemakapbaaGreatDoor.RjJ.Ps.part {W w : World} {g m N : Nat} {l : List En} (h : Ps W w g m l N) (lo hi : Bd) (rev : Bool) (hN : N ≤ 1000000000) :
    Calls Tryz.prog 25 #[.pointer (some ⟨g, 0, none⟩), bV lo, bV hi, .bool rev, .int .i64 0, .int .i64 (-1)] w fun e w' => ∃ A' c', e = .returned (.slice A' (partL l (inS lo hi) rev 0 (-1)).length c') ∧ RdE w' A' (partL l (inS lo hi) rev 0 (-1)).length c' (partL l (inS lo hi) rev 0 (-1)) ∧ Below w.heap.size w w' := by
  refine (h.scores lo hi rev 0 (-1) hN (by unfold inI; omega) (by unfold inI; omega)).mono ?_
  rintro e w' ⟨v, rfl, o, b⟩
  obtain ⟨A', c', rfl, r⟩ := own_rd o
  exact ⟨A', c', rfl, r, b⟩
theorem _root_.Go.Proofs.YtakhcfemakapbaaGreatDoor.RjJ.Ps.partn {W w : World} {g m N : Nat} {l : List En} (h : Ps W w g m l N) (lo hi : Bd) (K : Nat) (hN : N ≤ 1000000000) (hK : (partL l (inS lo hi) false 0 (-1)).length = K) :
    Calls Tryz.prog 25 #[.pointer (some ⟨g, 0, none⟩), bV lo, bV hi, .bool false, .int .i64 0, .int .i64 (-1)] w fun e w' => ∃ A' c', e = .returned (.slice A' K c') ∧ Below w.heap.size w w' := by
  refine (h.part lo hi false hN).mono ?_
  rintro e w' ⟨A', c', rfl, r, b⟩
  exact ⟨A', c', by rw [hK], b⟩
theorem _root_.Go.Proofs.YtakhcfemakapbaaGreatDoor.RjJ.Ps.listn {W w : World} {g m N : Nat} {l : List En} (h : Ps W w g m l N) (hl : l.length ≤ 1000000000) (hN : N ≤ 1000000000) :
    Calls Tryz.prog 16 #[.pointer (some ⟨g, 0, none⟩)] w fun e w' => ∃ A' c', e = .returned (.slice A' l.length c') ∧ RdE w' A' l.length c' l ∧ Below w.heap.size w w' := by
  refine (h.list hN).mono ?_
  rintro e w' ⟨v, rfl, o, b⟩
  obtain ⟨A', c', rfl, r⟩ := own_rd o
  exact ⟨A', c', rfl, r, b⟩
set_option maxHeartbeats 1000000 in
theorem partsLaw_calls (A : Option Addr) (n c : Nat) (l : List En) (lo hi : Bd) (W : World) (hr : RdE W A n c l) (hg : Gd l) (hn : n ≤ 1048576) (hL : Laid W) :
    Calls Tryz.prog 7 #[.slice A n c, bV lo, bV hi] W fun e w' => e = .returned (.bool true) ∧ Below W.heap.size W w' := by
  obtain rfl := rde_len hr
  obtain ⟨W2, hW2⟩ : ∃ W2, W2 = (W.alloc (.cells #[.int .i64 lo.inf, .bool lo.opn, .int .i64 lo.score, .string lo.name] 39)).alloc (.cells #[.int .i64 hi.inf, .bool hi.opn, .int .i64 hi.score, .string hi.name] 39) := ⟨_, rfl⟩
  have b2 : Below W.heap.size W W2 := by rw [hW2]; exact (al W _).trans ((al _ _).mono (al W _).size)
  have xl : Bxd W2 W.heap.size lo := by rw [hW2]; exact (bx_new W lo).below (al _ _)
  have xh : Bxd W2 (W.heap.size + 1) hi := by rw [hW2]; have q := bx_new (W.alloc (bo lo)) hi; rw [World.size_alloc] at q; exact q
  have hr2 := hr.below b2
  have htw := twin_calls A l.length c l W2 hr2 (sm hn)
  have HR := Lib.hid (And.intro hr2 (And.intro hg.ok (hL.below b2)))
  have HW := Lib.hid (And.intro b2 (And.intro xl xh))
  have HN := Lib.hid (sm hn)
  clear hr hg hL b2 xl xh hr2
  by_cases hS : allS l
  · by_cases hD : (l.map (·.2)).Nodup
    · have hlm := len_ofL hD
      have hsm := (of_facts hD).1
      have hof : Hid (∀ (A1 : Option Addr) (c1 : Nat) w, RdE w A1 l.length c1 l → Calls Tryz.prog 11 #[.slice A1 l.length c1] w fun e w' => ∃ g m, e = .returned (.tuple #[.pointer (some ⟨g, 0, none⟩), .int .i64 0]) ∧ Ps w w' g m (ofL l) l.length) := Lib.hid (fun A1 c1 w hr => of_ok A1 l.length c1 l w hr HR.out.2.1 HN.out hS hD)
      obtain ⟨B, U, a, pf⟩ := parts_facts hsm lo hi
      obtain ⟨M, hM⟩ : ∃ M, M = ofL l := ⟨_, rfl⟩
      rw [← hM] at hlm hof pf
      have hLl := hn
      rw [← hlm] at hLl
      have HM : Hid (M.length ≤ 1000000000) := Lib.hid (by omega)
      have hbU := pf.hB
      have hUU := pf.hU
      have haL := pf.len
      have HF := Lib.hid pf
      have HLM := Lib.hid hlm
      clear hS hD hM hsm pf hlm
      go_enter Tryz.func7, Tryz.ntmps7
      go_upto_region 1 with fail
      rw [← hW2]
      clear hW2
      go_wp2_with fail
      refine htw.mono ?_
      clear htw
      rintro e w1 ⟨v1, rfl, o1, b1⟩
      obtain ⟨A1, c1, rfl, r1⟩ := own_rd o1
      have h := hof.out A1 c1 w1 r1
      have HB1 := Lib.hid b1
      clear o1 r1 b1 hof
      go_wp2_with fail
      refine Calls.mono h ?_
      clear h
      rintro e w2 ⟨g, m, rfl, P2⟩
      have HP2 := Lib.hid (Ps.base P2 HB1.out)
      clear P2
      obtain ⟨W3, hW3⟩ : ∃ W3, W3 = (w2.alloc (.cells #[.int .i64 1, .bool false, .int .i64 0, .string ⟨#[]⟩] 39)).alloc (.cells #[.int .i64 (-1), .bool false, .int .i64 0, .string ⟨#[]⟩] 39) := ⟨_, rfl⟩
      have b3 : Below w2.heap.size w2 W3 := by rw [hW3]; exact (al w2 _).trans ((al _ _).mono (al w2 _).size)
      have xa : Bxd W3 w2.heap.size bAll := by rw [hW3]; exact (bx_new w2 bAll).below (al _ _)
      have xn : Bxd W3 (w2.heap.size + 1) bNone := by rw [hW3]; have q := bx_new (w2.alloc (bo bAll)) bNone; rw [World.size_alloc] at q; exact q
      have HP3 := Lib.hid (HP2.out.below b3)
      have HX := Lib.hid (And.intro xa xn)
      have HY : Hid (Bxd W3 W.heap.size lo ∧ Bxd W3 (W.heap.size + 1) hi) := Lib.hid ⟨(HW.out.2.1.below HP2.out.bel).below b3, (HW.out.2.2.below HP2.out.bel).below b3⟩
      obtain ⟨l0, l1, l2, l3⟩ := HY.out.1
      obtain ⟨h0, h1, h2, h3⟩ := HY.out.2
      have HW3 := Lib.hid hW3
      have k0 := l0
      have k1 := l1
      have k2 := l2
      have k3 := l3
      have j0 := h0
      have j1 := h1
      have j2 := h2
      have j3 := h3
      rw [hW3] at k0 k1 k2 k3 j0 j1 j2 j3
      clear b3 xa xn hW3 HP2
      go_upto_region 7 with fail
      rw [← HW3.out]
      clear k0 k1 k2 k3 j0 j1 j2 j3 HW3
      have hc := HP3.out.part lo hi false HN.out
      rw [HF.out.ab] at hc
      go_wp2_with fail
      refine Calls.mono hc ?_
      clear hc
      rintro e w4 ⟨A4, c4, rfl, r4, b4⟩
      have HA := Lib.hid (And.intro r4 b4)
      have HP4 := Lib.hid (HP3.out.below b4)
      clear r4 b4 l0 l1 l2 l3 h0 h1 h2 h3
      obtain ⟨K1, hK1⟩ : ∃ K1 : Nat, K1 = M.length - B := ⟨_, rfl⟩
      have hsub : (M.length : Int) - (K1 : Int) = (B : Int) := by omega
      have hwr : IntKind.i64.wrap ((M.length : Int) - (K1 : Int)) = (B : Int) := by rw [hsub, IntKind.wrap_i64]; omega
      have hmx : max (0 : Int) ((U : Int) - (B : Int)) = (a.length : Int) := by omega
      have haS : a.length ≤ M.length := by omega
      have HK1 := Lib.hid hK1
      clear hsub hK1 haL
      obtain ⟨l0, l1, l2, l3⟩ := HY.out.1.below HA.out.2
      obtain ⟨x0, x1, x2, x3⟩ := HX.out.1.below HA.out.2
      simp only [bAll] at x0 x1 x2 x3
      have HB4 : Hid (Below w4.heap.size w4 (w4.drewN 1)) := Lib.hid (below_drawn_ (Below.refl w4.heap.size w4) 1)
      go_wp2_with fail
      go_region_held3 (fun w' => w'.cell? ⟨W.heap.size, 0, none⟩ = some (.int .i64 lo.inf) ∧ w'.cell? ⟨W.heap.size, 1, none⟩ = some (.bool lo.opn) ∧ w'.cell? ⟨W.heap.size, 2, none⟩ = some (.int .i64 lo.score) ∧ w'.cell? ⟨W.heap.size, 3, none⟩ = some (.string lo.name) ∧ w'.cell? ⟨w2.heap.size, 0, none⟩ = some (.int .i64 1) ∧ w'.cell? ⟨w2.heap.size, 1, none⟩ = some (.bool false) ∧ w'.cell? ⟨w2.heap.size, 2, none⟩ = some (.int .i64 0) ∧ w'.cell? ⟨w2.heap.size, 3, none⟩ = some (.string ⟨#[]⟩))
        (first | exact ⟨l0, l1, l2, l3, x0, x1, x2, x3⟩ | assumption)
        (first
          | (go_at_call 16; refine ((HP4.out.below HB4.out).listn HM.out HN.out).mono ?_; rintro e w5 ⟨A5, c5, rfl, r5, b5⟩; have b45 := HB4.out.trans (b5.mono HB4.out.size); have q5 : w5.cell? ⟨W.heap.size, 0, none⟩ = some (.int .i64 lo.inf) ∧ w5.cell? ⟨W.heap.size, 1, none⟩ = some (.bool lo.opn) ∧ w5.cell? ⟨W.heap.size, 2, none⟩ = some (.int .i64 lo.score) ∧ w5.cell? ⟨W.heap.size, 3, none⟩ = some (.string lo.name) ∧ w5.cell? ⟨w2.heap.size, 0, none⟩ = some (.int .i64 1) ∧ w5.cell? ⟨w2.heap.size, 1, none⟩ = some (.bool false) ∧ w5.cell? ⟨w2.heap.size, 2, none⟩ = some (.int .i64 0) ∧ w5.cell? ⟨w2.heap.size, 3, none⟩ = some (.string ⟨#[]⟩) := ⟨cell_b l0 b45, cell_b l1 b45, cell_b l2 b45, cell_b l3 b45, cell_b x0 b45, cell_b x1 b45, cell_b x2 b45, cell_b x3 b45⟩)
          | (go_at_call 25; refine ((HP4.out.below b45).partn lo bAll K1 HN.out (by rw [HF.out.lo, HK1.out])).mono ?_; rintro e w6 ⟨A6, c6, rfl, b6⟩; have b46 := b45.trans (b6.mono b45.size); have q6 : w6.cell? ⟨W.heap.size, 0, none⟩ = some (.int .i64 lo.inf) ∧ w6.cell? ⟨W.heap.size, 1, none⟩ = some (.bool lo.opn) ∧ w6.cell? ⟨W.heap.size, 2, none⟩ = some (.int .i64 lo.score) ∧ w6.cell? ⟨W.heap.size, 3, none⟩ = some (.string lo.name) ∧ w6.cell? ⟨w2.heap.size, 0, none⟩ = some (.int .i64 1) ∧ w6.cell? ⟨w2.heap.size, 1, none⟩ = some (.bool false) ∧ w6.cell? ⟨w2.heap.size, 2, none⟩ = some (.int .i64 0) ∧ w6.cell? ⟨w2.heap.size, 3, none⟩ = some (.string ⟨#[]⟩) := ⟨cell_b l0 b46, cell_b l1 b46, cell_b l2 b46, cell_b l3 b46, cell_b x0 b46, cell_b x1 b46, cell_b x2 b46, cell_b x3 b46⟩))
      have HB6 := Lib.hid (And.intro b46 (below_seq HA.out.2 b46))
      clear q5 q6 b45 b46 b5 b6 r5 l0 l1 l2 l3 x0 x1 x2 x3 HB4
      have HP6 := Lib.hid (HP4.out.below HB6.out.1)
      obtain ⟨y0, y1, y2, y3⟩ := HX.out.2.below HB6.out.2
      obtain ⟨h0, h1, h2, h3⟩ := HY.out.2.below HB6.out.2
      simp only [bNone] at y0 y1 y2 y3
      go_wp2_with fail
      refine Calls.mono (HP6.out.partn bNone hi U HN.out HF.out.up) ?_
      rintro e w7 ⟨A7, c7, rfl, b7⟩
      have HP7 := Lib.hid (HP6.out.below b7)
      have HB7 := Lib.hid (And.intro (HB6.out.1.trans (b7.mono HB6.out.1.size)) (below_seq HB6.out.2 b7))
      clear b7 y0 y1 y2 y3 h0 h1 h2 h3
      obtain ⟨y0, y1, y2, y3⟩ := HX.out.2.below HB7.out.2
      obtain ⟨x0, x1, x2, x3⟩ := HX.out.1.below HB7.out.2
      simp only [bNone, bAll] at y0 y1 y2 y3 x0 x1 x2 x3
      have hc := HP7.out.part bNone bAll false HN.out
      rw [HF.out.al] at hc
      go_wp2_with fail
      refine Calls.mono hc ?_
      clear hc
      rintro e w8 ⟨A8, c8, rfl, r8, b8⟩
      have HP8 := Lib.hid (HP7.out.below b8)
      have HB8 := Lib.hid (And.intro (HB7.out.1.trans (b8.mono HB7.out.1.size)) (And.intro (below_seq HB7.out.2 b8) r8))
      clear b8 r8 y0 y1 y2 y3 x0 x1 x2 x3
      go_wp2_with fail
      refine Calls.mono (HP8.out.listn HM.out HN.out) ?_
      rintro e w9 ⟨A9, c9, rfl, r9, b9⟩
      have hsm := same_true A8 A9 _ c8 _ c9 M M w9 (HB8.out.2.2.below b9) r9 HM.out rfl
      have HP9 := Lib.hid (HP8.out.below b9)
      have HB9 := Lib.hid (And.intro (HB8.out.1.trans (b9.mono HB8.out.1.size)) (below_seq HB8.out.2.1 b9))
      clear b9 r9
      go_wp2_with fail
      refine Calls.mono hsm ?_
      clear hsm
      rintro e w10 ⟨rfl, b10⟩
      have HP10 := Lib.hid (HP9.out.below b10)
      have HB10 := Lib.hid (And.intro (HB9.out.1.trans (b10.mono HB9.out.1.size)) (below_seq HB9.out.2 b10))
      clear b10
      obtain ⟨l0, l1, l2, l3⟩ := HY.out.1.below HB10.out.2
      obtain ⟨h0, h1, h2, h3⟩ := HY.out.2.below HB10.out.2
      have hc := HP10.out.part lo hi true HN.out
      rw [HF.out.ba] at hc
      simp only [List.length_reverse] at hc
      go_wp2_with fail
      refine Calls.mono hc ?_
      clear hc
      rintro e w11 ⟨A11, c11, rfl, r11, b11⟩
      have HP11 := Lib.hid (HP10.out.below b11)
      have HR11 := Lib.hid (And.intro (HA.out.1.below (HB10.out.1.trans (b11.mono HB10.out.1.size))) r11)
      clear b11 r11 l0 l1 l2 l3 h0 h1 h2 h3 hwr hmx
      have hac := HA.out.1.cap
      go_wp2_with fail
      go_loopw [17] (fun iv wr => ∃ j : Nat, iv = .int .i64 j ∧ j ≤ a.length ∧ Hid (Below w11.heap.size w11 wr)) (fun iv _ => a.length - (intOf iv).toNat)
      case atStart => exact ⟨0, rfl, Nat.zero_le _, Lib.hid (Below.refl _ _)⟩
      case round =>
        obtain ⟨j, rfl, hj, HB⟩ := hrel
        by_cases hlt : j < a.length
        · obtain ⟨x, hx⟩ : ∃ x, a[j]? = some x := ⟨_, List.getElem?_eq_getElem hlt⟩
          obtain ⟨k, hk⟩ : ∃ k : Nat, k = a.length - 1 - j := ⟨_, rfl⟩
          have hrx : a.reverse[k]? = some x := by
            rw [List.getElem?_reverse (by omega), hk, show a.length - 1 - (a.length - 1 - j) = j by omega]; exact hx
          have hmx : M[B + j]? = some x := HF.out.at_ j x hx
          obtain ⟨q, hq, x0, x1⟩ := rde_get (HR11.out.1.below HB.out) hx
          obtain ⟨q', hq', y0, y1⟩ := rde_get (HR11.out.2.below HB.out) hrx
          subst hq hq'
          have hneq := fun W => neq_self x W
          have hka : ((a.length : Int) - 1 - (j : Int)) = (k : Int) := by omega
          have hkb : IntKind.i64.wrap ((a.length : Int) - 1) = (a.length : Int) - 1 := by rw [IntKind.wrap_i64]; omega
          have hkc : IntKind.i64.wrap ((a.length : Int) - 1 - (j : Int)) = (k : Int) := by rw [hka, IntKind.wrap_i64]; omega
          have hkd : IntKind.i64.wrap (k : Int) = (k : Int) := by rw [IntKind.wrap_i64]; omega
          obtain ⟨s, hs⟩ : ∃ s : Nat, s = B + j := ⟨_, rfl⟩
          have hsa : (B : Int) + (j : Int) = (s : Int) := by omega
          have hsb : IntKind.i64.wrap (s : Int) = (s : Int) := by rw [IntKind.wrap_i64]; omega
          have hsM : s < M.length := by rw [hs]; exact (List.getElem?_eq_some_iff.1 hmx).1
          rw [← hs] at hmx
          have HMX := Lib.hid hmx
          have hkl : k < a.length := by omega
          have hkl2 : (k : Int) < (a.length : Int) := by omega
          have hsM2 : (s : Int) < (M.length : Int) := by omega
          have hjl2 : (j : Int) < (a.length : Int) := by omega
          have hk0 : (0 : Int) ≤ (k : Int) := by omega
          have hs0 : (0 : Int) ≤ (s : Int) := by omega
          have HBx : Hid (Below wr.heap.size wr (wr.drewN 1)) := Lib.hid (below_drawn_ (Below.refl wr.heap.size wr) 1)
          clear hx hrx hmx hk hs
          go_upto_region 18 with fail
          refine wp_region_held_drew (S := fun w' => w'.cell? (q.add (j * 2)) = some (.string x.2) ∧ w'.cell? ⟨(q.add (j * 2)).block, (q.add (j * 2)).off + 1, none⟩ = some (.int .i64 x.1) ∧ w'.cell? (q'.add (k * 2)) = some (.string x.2) ∧ w'.cell? ⟨(q'.add (k * 2)).block, (q'.add (k * 2)).off + 1, none⟩ = some (.int .i64 x.1)) (by kernel_rfl) (⟨x0, x1, y0, y1⟩) (fun hHeld => ?_)
          refine wpAnyH_take (i := 0) (v := ?_) rfl (by kernel_rfl) (by kernel_rfl) (by kernel_rfl) (fun _ _ _ h => h) (Or.inl ⟨by rfl, ?_⟩) (by assumption) ?_
          rotate_left
          · intro wz hSw
            (try dsimp only at hSw)
            first
              | (go_simp; done)
              | (go_simp; with_reducible rfl)
          try simp only [Act.put, List.getElem_toArray, List.getElem_cons_zero, List.getElem_cons_succ, List.setIfInBounds_toArray, List.set_cons_zero, List.set_cons_succ]
          refine wpAnyH_take (i := 1) (v := ?_) rfl (by kernel_rfl) (by kernel_rfl) (by kernel_rfl) (fun _ _ _ h => h) (Or.inl ⟨by rfl, ?_⟩) (by assumption) ?_
          rotate_left
          · intro wz hSw
            (try dsimp only at hSw)
            first
              | (go_simp; done)
              | (go_simp; with_reducible rfl)
          try simp only [Act.put, List.getElem_toArray, List.getElem_cons_zero, List.getElem_cons_succ, List.setIfInBounds_toArray, List.set_cons_zero, List.set_cons_succ]
          refine wpAnyH_take (i := 2) (v := ?_) rfl (by kernel_rfl) (by kernel_rfl) (by kernel_rfl) (fun _ _ _ h => h) (Or.inl ⟨by rfl, ?_⟩) (by assumption) ?_
          rotate_left
          · intro wz hSw
            (try dsimp only at hSw)
            first
              | (go_simp; done)
              | (go_simp; with_reducible rfl)
          try simp only [Act.put, List.getElem_toArray, List.getElem_cons_zero, List.getElem_cons_succ, List.setIfInBounds_toArray, List.set_cons_zero, List.set_cons_succ]
          refine wpAnyH_take (i := 3) (v := ?_) rfl (by kernel_rfl) (by kernel_rfl) (by kernel_rfl) (fun _ _ _ h => h) (Or.inl ⟨by rfl, ?_⟩) (by assumption) ?_
          rotate_left
          · intro wz hSw
            (try dsimp only at hSw)
            first
              | (go_simp; done)
              | (go_simp; with_reducible rfl)
          try simp only [Act.put, List.getElem_toArray, List.getElem_cons_zero, List.getElem_cons_succ, List.setIfInBounds_toArray, List.set_cons_zero, List.set_cons_succ]
          refine wpAnyH_take (i := 4) (v := ?_) rfl (by kernel_rfl) (by kernel_rfl) (by kernel_rfl) (fun _ _ _ h => h) (Or.inl ⟨by rfl, ?_⟩) (by assumption) ?_
          rotate_left
          · intro wz hSw
            (try dsimp only at hSw)
            first
              | (go_simp; done)
              | (go_simp; with_reducible rfl)
          try simp only [Act.put, List.getElem_toArray, List.getElem_cons_zero, List.getElem_cons_succ, List.setIfInBounds_toArray, List.set_cons_zero, List.set_cons_succ]
          refine wpAnyH_take (i := 5) (v := ?_) rfl (by kernel_rfl) (by kernel_rfl) (by kernel_rfl) (fun _ _ _ h => h) (Or.inl ⟨by rfl, ?_⟩) (by assumption) ?_
          rotate_left
          · intro wz hSw
            (try dsimp only at hSw)
            first
              | (go_simp; done)
              | (go_simp; with_reducible rfl)
          try simp only [Act.put, List.getElem_toArray, List.getElem_cons_zero, List.getElem_cons_succ, List.setIfInBounds_toArray, List.set_cons_zero, List.set_cons_succ]
          refine wpAnyH_take (i := 6) (v := ?_) rfl (by kernel_rfl) (by kernel_rfl) (by kernel_rfl) (fun _ _ _ h => h) (Or.inl ⟨by rfl, ?_⟩) (by assumption) ?_
          rotate_left
          · intro wz hSw
            (try dsimp only at hSw)
            first
              | (go_simp; done)
              | (go_simp; with_reducible rfl)
          try simp only [Act.put, List.getElem_toArray, List.getElem_cons_zero, List.getElem_cons_succ, List.setIfInBounds_toArray, List.set_cons_zero, List.set_cons_succ]
          refine wpAnyH_take (i := 7) (v := ?_) rfl (by kernel_rfl) (by kernel_rfl) (by kernel_rfl) (fun _ _ _ h => h) (Or.inl ⟨by rfl, ?_⟩) (by assumption) ?_
          rotate_left
          · intro wz hSw
            (try dsimp only at hSw)
            first
              | (go_simp; done)
              | (go_simp; with_reducible rfl)
          try simp only [Act.put, List.getElem_toArray, List.getElem_cons_zero, List.getElem_cons_succ, List.setIfInBounds_toArray, List.set_cons_zero, List.set_cons_succ]
          refine wpAnyH_take (i := 8) (v := ?_) rfl (by kernel_rfl) (by kernel_rfl) (by kernel_rfl) (fun _ _ _ h => h) (Or.inl ⟨by rfl, ?_⟩) (by assumption) ?_
          rotate_left
          · intro wz hSw
            (try dsimp only at hSw)
            first
              | (go_simp; done)
              | (go_simp; with_reducible rfl)
          try simp only [Act.put, List.getElem_toArray, List.getElem_cons_zero, List.getElem_cons_succ, List.setIfInBounds_toArray, List.set_cons_zero, List.set_cons_succ]
          refine wpAnyH_take (i := 9) (v := ?_) rfl (by kernel_rfl) (by kernel_rfl) (by kernel_rfl) (fun _ _ _ h => h) (Or.inl ⟨by rfl, ?_⟩) (by assumption) ?_
          rotate_left
          · intro wz hSw
            (try dsimp only at hSw)
            first
              | (go_simp; done)
              | (go_simp; with_reducible rfl)
          try simp only [Act.put, List.getElem_toArray, List.getElem_cons_zero, List.getElem_cons_succ, List.setIfInBounds_toArray, List.set_cons_zero, List.set_cons_succ]
          refine wpAnyH_take (i := 10) (v := ?_) rfl (by kernel_rfl) (by kernel_rfl) (by kernel_rfl) (fun _ _ _ h => h) (Or.inl ⟨by rfl, ?_⟩) (by assumption) ?_
          rotate_left
          · intro wz hSw
            (try dsimp only at hSw)
            first
              | (go_simp; done)
              | (go_simp; with_reducible rfl)
          try simp only [Act.put, List.getElem_toArray, List.getElem_cons_zero, List.getElem_cons_succ, List.setIfInBounds_toArray, List.set_cons_zero, List.set_cons_succ]
          refine wpAnyH_take (i := 11) (v := ?_) rfl (by kernel_rfl) (by kernel_rfl) (by kernel_rfl) (fun _ _ _ h => h) (Or.inl ⟨by rfl, ?_⟩) (by assumption) ?_
          rotate_left
          · intro wz hSw
            (try dsimp only at hSw)
            first
              | (go_simp; done)
              | (go_simp; with_reducible rfl)
          try simp only [Act.put, List.getElem_toArray, List.getElem_cons_zero, List.getElem_cons_succ, List.setIfInBounds_toArray, List.set_cons_zero, List.set_cons_succ]
          refine wpAnyH_take (i := 12) (v := ?_) rfl (by kernel_rfl) (by kernel_rfl) (by kernel_rfl) (fun _ _ _ h => h) (Or.inl ⟨by rfl, ?_⟩) (by assumption) ?_
          rotate_left
          · intro wz hSw
            (try dsimp only at hSw)
            first
              | (go_simp; done)
              | (go_simp; with_reducible rfl)
          try simp only [Act.put, List.getElem_toArray, List.getElem_cons_zero, List.getElem_cons_succ, List.setIfInBounds_toArray, List.set_cons_zero, List.set_cons_succ]
          refine wpAnyH_take (i := 13) (v := ?_) rfl (by kernel_rfl) (by kernel_rfl) (by kernel_rfl) (fun _ _ _ h => h) (Or.inl ⟨by rfl, ?_⟩) (by assumption) ?_
          rotate_left
          · intro wz hSw
            (try dsimp only at hSw)
            first
              | (go_simp; done)
              | (go_simp; with_reducible rfl)
          try simp only [Act.put, List.getElem_toArray, List.getElem_cons_zero, List.getElem_cons_succ, List.setIfInBounds_toArray, List.set_cons_zero, List.set_cons_succ]
          refine wpAnyH_take (i := 14) (v := ?_) rfl (by kernel_rfl) (by kernel_rfl) (by kernel_rfl) (fun _ _ _ h => h) (Or.inl ⟨by rfl, ?_⟩) (by assumption) ?_
          rotate_left
          · intro wz hSw
            (try dsimp only at hSw)
            first
              | (go_simp; done)
              | (go_simp; with_reducible rfl)
          try simp only [Act.put, List.getElem_toArray, List.getElem_cons_zero, List.getElem_cons_succ, List.setIfInBounds_toArray, List.set_cons_zero, List.set_cons_succ]
          refine wpAnyH_take (i := 15) (v := ?_) rfl (by kernel_rfl) (by kernel_rfl) (by kernel_rfl) (fun _ _ _ h => h) (Or.inl ⟨by rfl, ?_⟩) (by assumption) ?_
          rotate_left
          · intro wz hSw
            (try dsimp only at hSw)
            first
              | (go_simp; done)
              | (go_simp; with_reducible rfl)
          try simp only [Act.put, List.getElem_toArray, List.getElem_cons_zero, List.getElem_cons_succ, List.setIfInBounds_toArray, List.set_cons_zero, List.set_cons_succ]
          refine wpAnyH_take (i := 16) (v := ?_) rfl (by kernel_rfl) (by kernel_rfl) (by kernel_rfl) (fun _ _ _ h => h) (Or.inl ⟨by rfl, ?_⟩) (by assumption) ?_
          rotate_left
          · intro wz hSw
            (try dsimp only at hSw)
            first
              | (go_simp; done)
              | (go_simp; with_reducible rfl)
          try simp only [Act.put, List.getElem_toArray, List.getElem_cons_zero, List.getElem_cons_succ, List.setIfInBounds_toArray, List.set_cons_zero, List.set_cons_succ]
          refine wpAnyH_take (i := 17) (v := ?_) rfl (by kernel_rfl) (by kernel_rfl) (by kernel_rfl) (fun _ _ _ h => h) (Or.inl ⟨by rfl, ?_⟩) (by assumption) ?_
          rotate_left
          · intro wz hSw
            (try dsimp only at hSw)
            first
              | (go_simp; done)
              | (go_simp; with_reducible rfl)
          try simp only [Act.put, List.getElem_toArray, List.getElem_cons_zero, List.getElem_cons_succ, List.setIfInBounds_toArray, List.set_cons_zero, List.set_cons_succ]
          refine wpAnyH_take (i := 18) (v := ?_) rfl (by kernel_rfl) (by kernel_rfl) (by kernel_rfl) (fun _ _ _ h => h) (Or.inl ⟨by rfl, ?_⟩) (by assumption) ?_
          rotate_left
          · intro wz hSw
            (try dsimp only at hSw)
            first
              | (go_simp; done)
              | (go_simp; with_reducible rfl)
          try simp only [Act.put, List.getElem_toArray, List.getElem_cons_zero, List.getElem_cons_succ, List.setIfInBounds_toArray, List.set_cons_zero, List.set_cons_succ]
          refine wpAnyH_take (i := 20) (v := ?_) rfl (by kernel_rfl) (by kernel_rfl) (by kernel_rfl) (fun _ _ _ h => h) (Or.inl ⟨by rfl, ?_⟩) (by assumption) ?_
          rotate_left
          · intro wz hSw
            (try dsimp only at hSw)
            first
              | (go_simp; done)
              | (go_simp; with_reducible rfl)
          try simp only [Act.put, List.getElem_toArray, List.getElem_cons_zero, List.getElem_cons_succ, List.setIfInBounds_toArray, List.set_cons_zero, List.set_cons_succ]
          refine wpAnyH_take (i := 21) (v := ?_) rfl (by kernel_rfl) (by kernel_rfl) (by kernel_rfl) (fun _ _ _ h => h) (Or.inl ⟨by rfl, ?_⟩) (by assumption) ?_
          rotate_left
          · intro wz hSw
            (try dsimp only at hSw)
            first
              | (go_simp; done)
              | (go_simp; with_reducible rfl)
          try simp only [Act.put, List.getElem_toArray, List.getElem_cons_zero, List.getElem_cons_succ, List.setIfInBounds_toArray, List.set_cons_zero, List.set_cons_succ]
          refine wpAnyH_take (i := 22) (v := ?_) rfl (by kernel_rfl) (by kernel_rfl) (by kernel_rfl) (fun _ _ _ h => h) (Or.inl ⟨by rfl, ?_⟩) (by assumption) ?_
          rotate_left
          · intro wz hSw
            (try dsimp only at hSw)
            first
              | (go_simp; done)
              | (go_simp; with_reducible rfl)
          try simp only [Act.put, List.getElem_toArray, List.getElem_cons_zero, List.getElem_cons_succ, List.setIfInBounds_toArray, List.set_cons_zero, List.set_cons_succ]
          refine wpAnyH_ready (rs := [19]) (by kernel_rfl) (by simp) ?_
          refine AllReadyH.cons rfl (fun K19 hK19 => ?_) AllReadyH.nil
          go_simp
          refine (((HP11.out.below HB.out).below HBx.out).listn HM.out HN.out).mono ?_
          rintro e w12 ⟨A12, c12, rfl, r12, b12⟩
          have b13 := HBx.out.trans (b12.mono HBx.out.size)
          obtain ⟨q2, rfl, z0, z1⟩ := rde_get r12 HMX.out
          refine hK19.out _ _ (⟨cell_b x0 b13, cell_b x1 b13, cell_b y0 b13, cell_b y1 b13⟩) (fun hHeld => ?_)
          clear hK19 K19
          try simp only [Act.put, List.getElem_toArray, List.getElem_cons_zero, List.getElem_cons_succ, List.setIfInBounds_toArray, List.set_cons_zero, List.set_cons_succ]
          refine wpAnyH_take (i := 23) (v := ?_) rfl (by kernel_rfl) (by kernel_rfl) (by kernel_rfl) (fun _ _ _ h => h) (Or.inl ⟨by rfl, ?_⟩) (by assumption) ?_
          rotate_left
          · intro wz hSw
            (try dsimp only at hSw)
            first
              | (go_simp; done)
              | (go_simp; with_reducible rfl)
          try simp only [Act.put, List.getElem_toArray, List.getElem_cons_zero, List.getElem_cons_succ, List.setIfInBounds_toArray, List.set_cons_zero, List.set_cons_succ]
          refine wpAnyH_ready (rs := [24]) (by kernel_rfl) (by simp) ?_
          refine AllReadyH.cons rfl (fun K24 hK24 => ?_) AllReadyH.nil
          go_simp
          refine hK24.out _ _ (⟨cell_b x0 b13, cell_b x1 b13, cell_b y0 b13, cell_b y1 b13⟩) (fun hHeld => ?_)
          clear hK24 K24
          try simp only [Act.put, List.getElem_toArray, List.getElem_cons_zero, List.getElem_cons_succ, List.setIfInBounds_toArray, List.set_cons_zero, List.set_cons_succ]
          refine wpAnyH_take (i := 25) (v := ?_) rfl (by kernel_rfl) (by kernel_rfl) (by kernel_rfl) (fun _ _ _ h => h) (Or.inl ⟨by rfl, ?_⟩) (by assumption) ?_
          rotate_left
          · intro wz hSw
            (try dsimp only at hSw)
            first
              | (go_simp; done)
              | (go_simp; with_reducible rfl)
          try simp only [Act.put, List.getElem_toArray, List.getElem_cons_zero, List.getElem_cons_succ, List.setIfInBounds_toArray, List.set_cons_zero, List.set_cons_succ]
          refine wpAnyH_take (i := 26) (v := ?_) rfl (by kernel_rfl) (by kernel_rfl) (by kernel_rfl) (fun _ _ _ h => h) (Or.inl ⟨by rfl, ?_⟩) (by assumption) ?_
          rotate_left
          · intro wz hSw
            (try dsimp only at hSw)
            first
              | (go_simp; done)
              | (go_simp; with_reducible rfl)
          try simp only [Act.put, List.getElem_toArray, List.getElem_cons_zero, List.getElem_cons_succ, List.setIfInBounds_toArray, List.set_cons_zero, List.set_cons_succ]
          refine wpAnyH_done (by kernel_rfl) ?_ _
          have HB12 := Lib.hid (HB.out.trans (b13.mono HB.out.size))
          clear b13 b12 r12 z0 z1 x0 x1 y0 y1
          go_wp2_with fail
          exact ⟨⟨j + 1, by go_num, by omega, HB12⟩, by simp [intOf]; omega⟩
        · obtain rfl : j = a.length := by omega
          have HP12 := Lib.hid (HP11.out.below HB.out)
          have h := sure_calls wr (HR.out.2.2.below HP12.out.bel)
          go_wp2_with fail
          refine Calls.mono h ?_
          clear h
          rintro e w13 ⟨rfl, b13⟩
          go_wp2_with fail
          go_ret
          exact ⟨rfl, below_seq HW.out.1 (below_seq HP12.out.bel b13)⟩
    · have HSD := Lib.hid (And.intro hS hD)
      clear hS hD
      go_enter Tryz.func7, Tryz.ntmps7
      go_upto_region 1 with fail
      rw [← hW2]
      clear hW2
      go_wp2_with fail
      refine htw.mono ?_
      clear htw
      rintro e w1 ⟨v1, rfl, o1, b1⟩
      obtain ⟨A1, c1, rfl, r1⟩ := own_rd o1
      have h := of_twice A1 l.length c1 l w1 HR.out.2.1 HN.out HSD.out.1 HSD.out.2 r1
      have HB1 := Lib.hid b1
      clear o1 r1 b1
      go_wp2_with fail
      refine Calls.mono h ?_
      clear h
      rintro e w2 ⟨rfl, b2⟩
      have HB2 := Lib.hid (below_seq HB1.out b2)
      clear b2
      have h := ofR_twice A l.length c l w2 HN.out HSD.out.1 HSD.out.2 (HR.out.1.below HB2.out)
      go_wp2_with fail
      refine Calls.mono h ?_
      clear h
      rintro e w3 ⟨rfl, b3⟩
      have HB3 := Lib.hid (below_seq HB2.out b3)
      clear b3
      have h := sure_calls w3 (HR.out.2.2.below HB3.out)
      go_wp2_with fail
      refine Calls.mono h ?_
      clear h
      rintro e w8 ⟨rfl, b8⟩
      go_wp2_with fail
      go_ret
      exact ⟨rfl, below_seq HW.out.1 (below_seq HB3.out b8)⟩
  · have HSD := Lib.hid hS
    clear hS
    go_enter Tryz.func7, Tryz.ntmps7
    go_upto_region 1 with fail
    rw [← hW2]
    clear hW2
    go_wp2_with fail
    refine htw.mono ?_
    clear htw
    rintro e w1 ⟨v1, rfl, o1, b1⟩
    obtain ⟨A1, c1, rfl, r1⟩ := own_rd o1
    have h := of_bad A1 l.length c1 l w1 r1 HR.out.2.1 HN.out HSD.out
    have HB1 := Lib.hid b1
    clear o1 r1 b1
    go_wp2_with fail
    refine Calls.mono h ?_
    clear h
    rintro e w2 ⟨rfl, b2⟩
    have HB2 := Lib.hid (below_seq HB1.out b2)
    clear b2
    have h := ofR_bad A l.length c l w2 HN.out HSD.out (HR.out.1.below HB2.out)
    go_wp2_with fail
    refine Calls.mono h ?_
    clear h
    rintro e w3 ⟨rfl, b3⟩
    have HB3 := Lib.hid (below_seq HB2.out b3)
    clear b3
    have h := sure_calls w3 (HR.out.2.2.below HB3.out)
    go_wp2_with fail
    refine Calls.mono h ?_
    clear h
    rintro e w8 ⟨rfl, b8⟩
    go_wp2_with fail
    go_ret
    exact ⟨rfl, below_seq HW.out.1 (below_seq HB3.out b8)⟩
theorem parts_law (A : Option Addr) (n c : Nat) (z : List (ByteArray × Int)) (lo hi : Bd) (W : World) (hr : Rd W 2 A n c (z.flatMap scF)) (hl : z.length = n) (h1 : ∀ x ∈ z, scOK x) (h2 : (z.map scM).sum ≤ 1048576) (k1 : bdOK lo) (m1 : bdM lo ≤ 1048576) (k2 : bdOK hi) (m2 : bdM hi ≤ 1048576) (hL : Laid W) :
    Calls Tryz.prog 7 #[.slice A n c, .agg (bdF lo).toArray, .agg (bdF hi).toArray] W fun e w' => e = .returned (.bool true) ∧ Below W.heap.size W w' :=
  partsLaw_calls A n c (toEn z) lo hi W (rd_of hr) (gd_of h2) (by rw [← hl]; exact len_of h2) hL
end Go.Proofs.YtakhcfemakapbaaGreatDoor.RjR
