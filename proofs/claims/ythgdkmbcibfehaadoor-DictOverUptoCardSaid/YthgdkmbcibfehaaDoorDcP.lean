/-
  The law DictPlays: what every row of calls answers. Conditions: as stated.
-/
import Derived.Test.YthgdkmbcibfehaaDoorDcO
set_option maxRecDepth 100000
set_option linter.unusedSimpArgs false
set_option linter.unusedVariables false
namespace Go.Proofs.YthgdkmbcibfehaaDoor.DcP
open Go.RowKit Go.Proofs.YthgdkmbcibfehaaDoor.Mem Go.Proofs.YthgdkmbcibfehaaDoor.NumA Go.Proofs.YthgdkmbcibfehaaDoor.NumB Go.Proofs.YthgdkmbcibfehaaDoor.NumE Go.Proofs.YthgdkmbcibfehaaDoor.DcA Go.Proofs.YthgdkmbcibfehaaDoor.DcB Go.Proofs.YthgdkmbcibfehaaDoor.DcC Go.Proofs.YthgdkmbcibfehaaDoor.DcD Go.Proofs.YthgdkmbcibfehaaDoor.DcE Go.Proofs.YthgdkmbcibfehaaDoor.DcF Go.Proofs.YthgdkmbcibfehaaDoor.DcG Go.Proofs.YthgdkmbcibfehaaDoor.DcI Go.Proofs.YthgdkmbcibfehaaDoor.DcJ Go.Proofs.YthgdkmbcibfehaaDoor.DcK Go.Proofs.YthgdkmbcibfehaaDoor.DcL Go.Proofs.YthgdkmbcibfehaaDoor.DcM Go.Proofs.YthgdkmbcibfehaaDoor.DcN Go.Proofs.YthgdkmbcibfehaaDoor.DcO

/-- The copy of a call's row. -/
structure Oc (w : World) (b : Nat) (x : OpD) : Prop where
  k0 : w.cell? ⟨b, 0, none⟩ = some (.int .i64 x.1)
  k1 : w.cell? ⟨b, 1, none⟩ = some (.string x.2.1)
  k2 : w.cell? ⟨b, 2, none⟩ = some (.string x.2.2.1)
  k3 : w.cell? ⟨b, 3, none⟩ = some (.int .i64 x.2.2.2)
  lt : b < w.heap.size
theorem Oc.below {w w' : World} {b : Nat} {x : OpD} (h : Oc w b x) (hb : Below w.heap.size w w') : Oc w' b x :=
  ⟨(hb.cell (p := ⟨b, 0, none⟩) h.lt).trans h.k0, (hb.cell (p := ⟨b, 1, none⟩) h.lt).trans h.k1, (hb.cell (p := ⟨b, 2, none⟩) h.lt).trans h.k2, (hb.cell (p := ⟨b, 3, none⟩) h.lt).trans h.k3, Nat.lt_of_lt_of_le h.lt hb.size⟩
theorem Oc.new (w : World) (x : OpD) (T : TypeId) : Oc (w.alloc (.cells #[.int .i64 x.1, .string x.2.1, .string x.2.2.1, .int .i64 x.2.2.2] T)) w.heap.size x := by
  have h := heap_alloc_new w (.cells #[.int .i64 x.1, .string x.2.1, .string x.2.2.1, .int .i64 x.2.2.2] T)
  refine ⟨?_, ?_, ?_, ?_, by simp⟩ <;> (unfold World.cell?; simp only [h]; rfl)
theorem ok_small' {s : ByteArray} (h : s.size ≤ 1048576) : okk s := by unfold okk maxLen; omega
set_option maxHeartbeats 16000000 in
theorem plays_calls (A : Option Addr) (n c : Nat) (l : List Fld) (As : Option Addr) (ns cs : Nat) (ds : List OpD) (W : World) (hr : RdF W A n c l) (hg : Gd l) (hn : n ≤ 1048576) (hp : RdP W As ns cs ds) (hns : ns ≤ 1048576) (hL : Laid W) :
    Calls Tryd.prog 3 #[.slice A n c, .slice As ns cs] W fun e w' => e = .returned (.bool true) ∧ Below W.heap.size W w' := by
  obtain rfl := rdf_len hr
  obtain rfl := hp.len
  have hof := of_calls A _ c l W hr hg.ok (by omega)
  have hcap := hp.rd.cap
  have hbig : cs ≤ 9223372036854775807 := hp.rd.big
  have HR := Lib.hid (And.intro hr (And.intro hg (And.intro hp hL)))
  clear hr hg hp hL
  go_enter Tryd.func3, Tryd.ntmps3
  go_wp2_with fail
  refine hof.mono ?_
  clear hof
  rintro e w1 ⟨b1, ⟨hl, g, m, rfl, d1⟩ | ⟨hl, rfl⟩⟩
  · have Hl := Lib.hid hl
    have H1 := Lib.hid (And.intro b1 d1)
    clear hl b1 d1
    go_wp2_with fail
    refine (rises_calls A _ c l w1 (HR.out.1.below H1.out.1) (by omega)).mono ?_
    rintro e w2 ⟨⟨b, rfl, hb⟩, nd, rfl⟩
    obtain rfl : b = true := hb.2 Hl.out
    clear hb
    have P2 : Pl W (w1.drewN nd) g m l.length A c l := Pl.below ⟨H1.out.2, HR.out.1.below H1.out.1, HR.out.2.1, H1.out.1⟩ (below_drawn_' nd)
    have HP2 := Lib.hid P2
    clear P2
    go_wp2_with fail
    go_loopw [8, 9] (fun mv i wr => ∃ (k : Nat) (A' : Option Addr) (c' : Nat) (cur : List Fld), k ≤ ds.length ∧ i = .int .i64 k ∧ mv = .slice A' cur.length c' ∧ Pl W wr g m (l.length + k) A' c' cur) (fun _ i _ => ds.length - (intOf i).toNat)
    case atStart => exact ⟨0, A, c, l, Nat.zero_le _, rfl, rfl, HP2.out⟩
    case round =>
      clear HP2
      obtain ⟨k, A', c', cur, hk, rfl, rfl, P⟩ := hrel
      have HP := Lib.hid P
      have hcl := P.len
      have Hcl := Lib.hid hcl
      clear P hcl
      by_cases hlt : k < ds.length
      · obtain ⟨x, hx⟩ : ∃ x, ds[k]? = some x := ⟨_, List.getElem?_eq_getElem hlt⟩
        obtain ⟨p, rfl, k0, k1, k2, k3⟩ := HR.out.2.2.1.at_ HP.out.bel hx
        obtain ⟨hxn, hx1, hx2⟩ := HR.out.2.2.1.ok x (List.mem_of_getElem? hx)
        have Hxx := Lib.hid (And.intro hxn (And.intro hx1 hx2))
        clear hx hxn hx1 hx2
        have hO := Oc.new wr x 31
        have hb0 : Below wr.heap.size wr (wr.alloc (.cells #[.int .i64 x.1, .string x.2.1, .string x.2.2.1, .int .i64 x.2.2.2] 31)) := (Below.refl _ _).alloc (Nat.le_refl _) _
        obtain ⟨W3, hW3⟩ : ∃ W3, W3 = wr.alloc (.cells #[.int .i64 x.1, .string x.2.1, .string x.2.2.1, .int .i64 x.2.2.2] 31) := ⟨_, rfl⟩
        rw [← hW3] at hO hb0
        have P3 := HP.out.below hb0
        obtain ⟨bo, hbo⟩ : ∃ bo, bo = wr.heap.size := ⟨_, rfl⟩
        rw [← hbo] at hO
        have HS := Lib.hid (And.intro P3 (And.intro hO hbo))
        clear P3 hO hb0 HP
        go_upto_region 12 with fail
        rw [← hW3, ← hbo]
        clear k0 k1 k2 k3 hW3 hbo
        obtain ⟨P3, hO, hbo⟩ := HS.out
        have HP3 := Lib.hid P3
        clear P3 hbo
        obtain ⟨K, nm, vl, nn⟩ := x
        obtain ⟨hxn, hx1, hx2⟩ := Hxx.out
        obtain ⟨c0, c1, c2, c3, hbl⟩ := hO
        have HO := Lib.hid (Oc.mk c0 c1 c2 c3 hbl)
        clear HS
        simp only at hxn hx1 hx2 c0 c1 c2 c3
        have HX := Lib.hid (And.intro hxn (And.intro hx1 hx2))
        clear hxn hx1 hx2 Hxx hbl
        by_cases h0 : K = 0
        · subst h0
          go_wp2_with fail
          refine (setR_calls A' _ c' cur nm vl W3 HP3.out.rd HP3.out.dc.ris (by have := Hcl.out; omega)).mono ?_
          rintro e w4 ⟨v4, rfl, o4, b4⟩
          obtain ⟨A4, c4, rfl, r4⟩ := own_rd o4
          obtain ⟨c0, c1, c2, c3, _⟩ := HO.out.below b4
          have D4 := HP3.out.dc.below b4
          have HD4 := Lib.hid (And.intro r4 (And.intro b4 D4))
          clear o4 b4 D4 r4
          go_wp2_with fail
          refine (set_calls W.heap.size g m cur (l.length + k) nm vl w4 HD4.out.2.2 (ok_small' HX.out.2.1) (ok_small' HX.out.2.2) (by omega)).mono ?_
          rintro e w5 ⟨rfl, d5, o5⟩
          have P5 := HP3.out.turn HD4.out.2.1 HD4.out.1 (HP3.out.gd.set (by have := HX.out.2.1; omega) (by have := HX.out.2.2; omega)) d5 o5
          clear c0 c1 c2 c3
          go_wp2_with fail
          refine (len_calls W.heap.size g m (setL cur nm vl) _ _ P5.dc).mono ?_
          rintro e w6 ⟨rfl, rfl⟩
          go_wp2_with fail
          exact ⟨⟨k + 1, A4, c4, (setL cur nm vl), by omega, by go_num, rfl, P5.more (by omega)⟩, by simp [intOf]; omega⟩
        by_cases h2 : K = 2
        · subst h2
          clear h0
          go_wp2_with fail
          refine (dropR_calls A' _ c' cur nm W3 HP3.out.rd HP3.out.dc.ris (by have := Hcl.out; omega)).mono ?_
          rintro e w4 ⟨A4, n4, c4, rfl, r4, b4⟩
          obtain rfl := rdf_len r4
          obtain ⟨c0, c1, c2, c3, _⟩ := HO.out.below b4
          have D4 := HP3.out.dc.below b4
          have HD4 := Lib.hid (And.intro r4 (And.intro b4 D4))
          clear b4 D4 r4
          go_wp2_with fail
          refine (drop_calls W.heap.size g m cur (l.length + k) nm w4 HD4.out.2.2 (ok_small' HX.out.2.1)).mono ?_
          rintro e w5 ⟨rfl, d5, o5⟩
          have P5 := HP3.out.turn HD4.out.2.1 HD4.out.1 (HP3.out.gd.drop nm) d5 o5
          clear c0 c1 c2 c3
          go_wp2_with fail
          refine (len_calls W.heap.size g m (dropL cur nm) _ _ P5.dc).mono ?_
          rintro e w6 ⟨rfl, rfl⟩
          go_wp2_with fail
          exact ⟨⟨k + 1, A4, c4, (dropL cur nm), by omega, by go_num, rfl, P5.more (by omega)⟩, by simp [intOf]; omega⟩
        by_cases h3 : K = 3
        · subst h3
          clear h0 h2
          go_wp2_with fail
          refine (incrR_calls A' _ c' cur nm nn W3 HP3.out.rd HP3.out.dc.ris (by have := Hcl.out; omega) HX.out.1 (fun s hs => Nat.le_trans (HP3.out.gd.get HP3.out.dc.ris hs) (by decide))).mono ?_
          rintro e w4 ⟨A4, n4, c4, a, b, rfl, hv, r4, b4⟩
          obtain rfl := rdf_len r4
          obtain ⟨c0, c1, c2, c3, _⟩ := HO.out.below b4
          have D4 := HP3.out.dc.below b4
          have hin := incr_calls W.heap.size g m cur (l.length + k) nm nn w4 D4 ((HP3.out.laid HR.out.2.2.2).below b4) (ok_small' HX.out.2.1) HX.out.1 (fun s hs => Nat.le_trans (HP3.out.gd.get HP3.out.dc.ris hs) (by decide)) (by omega)
          rw [hv] at hin
          have HD4 := Lib.hid (And.intro r4 b4)
          clear b4 D4 r4 hv
          go_wp2_with fail
          refine hin.mono ?_
          clear hin
          rintro e w5 ⟨rfl, d5, o5⟩
          have P5 := HP3.out.turn HD4.out.2 HD4.out.1 (HP3.out.gd.inc (by have := HX.out.2.1; omega) nn) d5 o5
          clear c0 c1 c2 c3
          go_wp2_with fail
          refine (len_calls W.heap.size g m (incL cur nm nn) _ _ P5.dc).mono ?_
          rintro e w6 ⟨rfl, rfl⟩
          go_wp2_with fail
          exact ⟨⟨k + 1, A4, c4, (incL cur nm nn), by omega, by go_num, rfl, P5.more (by omega)⟩, by simp [intOf]; omega⟩
        by_cases h4 : K = 4
        · subst h4
          clear h0 h2 h3
          have HA : (aftL cur nm nn).length ≤ 1000000000 := by
            unfold aftL
            rw [List.length_take, List.length_drop]
            have := Hcl.out
            omega
          go_wp2_with fail
          go_region_held3 (fun w' => w'.cell? ⟨bo, 1, none⟩ = some (.string nm) ∧ w'.cell? ⟨bo, 3, none⟩ = some (.int .i64 nn))
            (first | exact ⟨c1, c3⟩ | assumption)
            (first
              | (go_at_call 18; refine (after_calls W.heap.size g m cur (l.length + k) nm nn _ (HP3.out.below (below_drawn_' 1)).dc HX.out.1 (by have := Hcl.out; omega)).mono ?_; rintro e w4 ⟨v4, rfl, o4, b4⟩; obtain ⟨A4, c4, rfl, r4⟩ := own_rd o4; have P4 := (HP3.out.below (below_drawn_' 1)).below b4; have hO4 := (HO.out.below (below_drawn_' 1)).below b4; have q4 : w4.cell? ⟨bo, 1, none⟩ = some (.string nm) ∧ w4.cell? ⟨bo, 3, none⟩ = some (.int .i64 nn) := ⟨hO4.k1, hO4.k3⟩)
              | (go_at_call 19; refine (afterR_calls A' _ c' cur nm nn _ P4.rd P4.dc.ris (by have := Hcl.out; omega) HX.out.1).mono ?_; rintro e w5 ⟨A5, n5, c5, rfl, r5, nd5, rfl⟩; have q5 : (w4.drewN nd5).cell? ⟨bo, 1, none⟩ = some (.string nm) ∧ (w4.drewN nd5).cell? ⟨bo, 3, none⟩ = some (.int .i64 nn) := q4)
              | (go_at_call 17; refine (same_true A4 A5 _ c4 _ c5 _ _ _ (r4.below (below_drawn_' nd5)) r5 HA (by rw [← rdf_len r5]; exact HA) rfl).mono ?_; rintro e w6 ⟨rfl, nd6, rfl⟩; have q6 : ((w4.drewN nd5).drewN nd6).cell? ⟨bo, 1, none⟩ = some (.string nm) ∧ ((w4.drewN nd5).drewN nd6).cell? ⟨bo, 3, none⟩ = some (.int .i64 nn) := q4))
          all_goals (
            have P5 := P4.below (below_drawn_' (nd5 + nd6))
            have HP5 := Lib.hid P5
            clear P5 P4 hO4 q4 q5 q6 c0 c1 c2 c3
            go_wp2_with fail
            refine (len_calls W.heap.size g m cur _ _ HP5.out.dc).mono ?_
            rintro e w6 ⟨rfl, rfl⟩
            go_wp2_with fail
            exact ⟨⟨k + 1, A', c', cur, by omega, by go_num, rfl, HP5.out.more (by omega)⟩, by simp [intOf]; omega⟩)
        by_cases h5 : K = 5
        · subst h5
          clear h0 h2 h3 h4
          go_wp2_with fail
          refine (fields_calls W.heap.size g m cur (l.length + k) W3 HP3.out.dc (by have := Hcl.out; omega)).mono ?_
          rintro e w4 ⟨v4, rfl, o4, b4⟩
          obtain ⟨A4, c4, rfl, r4⟩ := own_rd o4
          have P4 := HP3.out.below b4
          have hsm := same_true A4 A' _ c4 _ c' cur cur w4 r4 P4.rd (by have := Hcl.out; omega) (by have := Hcl.out; omega) rfl
          have HP4 := Lib.hid P4
          clear o4 b4 r4 P4
          go_wp2_with fail
          refine hsm.mono ?_
          clear hsm
          rintro e w5 ⟨rfl, nd, rfl⟩
          have P5 := HP4.out.below (below_drawn_' nd)
          clear c0 c1 c2 c3
          go_wp2_with fail
          refine (len_calls W.heap.size g m cur _ _ P5.dc).mono ?_
          rintro e w6 ⟨rfl, rfl⟩
          go_wp2_with fail
          exact ⟨⟨k + 1, A', c', cur, by omega, by go_num, rfl, P5.more (by omega)⟩, by simp [intOf]; omega⟩
        · have b0 : (K == 0) = false := by simp [h0]
          have b2 : (K == 2) = false := by simp [h2]
          have b3 : (K == 3) = false := by simp [h3]
          have b4 : (K == 4) = false := by simp [h4]
          have b5 : (K == 5) = false := by simp [h5]
          have hgt := get_calls W.heap.size g m cur (l.length + k) nm W3 HP3.out.dc (ok_small' HX.out.2.1)
          have hgr := getR_calls A' _ c' cur nm W3 HP3.out.rd HP3.out.dc.ris (by have := Hcl.out; omega)
          unfold getV at hgt
          generalize (getL cur nm).getD ⟨#[]⟩ = T at hgt hgr
          generalize (getL cur nm).isSome = tb at hgt hgr
          go_wp2_with fail
          refine hgt.mono ?_
          clear hgt
          rintro e w4 ⟨rfl, rfl⟩
          go_wp2_with fail
          refine hgr.mono ?_
          clear hgr
          rintro e w5 ⟨rfl, nd, rfl⟩
          have P5 := HP3.out.below (below_drawn_' nd)
          clear c0 c1 c2 c3
          go_wp2_with fail
          refine (len_calls W.heap.size g m cur _ _ P5.dc).mono ?_
          rintro e w6 ⟨rfl, rfl⟩
          go_wp2_with fail
          exact ⟨⟨k + 1, A', c', cur, by omega, by go_num, rfl, P5.more (by omega)⟩, by simp [intOf]; omega⟩
      · obtain rfl : k = ds.length := by omega
        go_wp2_with fail
        refine (fields_calls W.heap.size g m cur (l.length + ds.length) wr HP.out.dc (by have := Hcl.out; omega)).mono ?_
        rintro e w4 ⟨v4, rfl, o4, b4⟩
        obtain ⟨A4, c4, rfl, r4⟩ := own_rd o4
        have P4 := HP.out.below b4
        have hsm := same_true A4 A' _ c4 _ c' cur cur w4 r4 P4.rd (by have := Hcl.out; omega) (by have := Hcl.out; omega) rfl
        have HP4 := Lib.hid P4
        clear o4 b4 r4 P4
        go_wp2_with fail
        refine hsm.mono ?_
        clear hsm
        rintro e w5 ⟨rfl, nd, rfl⟩
        have P5 := HP4.out.below (below_drawn_' nd)
        have hsr := sure_calls _ (P5.laid HR.out.2.2.2)
        have HP5 := Lib.hid P5
        clear P5
        go_wp2_with fail
        refine hsr.mono ?_
        clear hsr
        rintro e w6 ⟨rfl, b6⟩
        go_wp2_with fail
        go_ret
        exact ⟨rfl, below_seq HP5.out.bel b6⟩
  · have Hl := Lib.hid hl
    have H1 := Lib.hid b1
    clear hl b1
    go_wp2_with fail
    refine (rises_calls A _ c l w1 (HR.out.1.below H1.out) (by omega)).mono ?_
    rintro e w2 ⟨⟨b, rfl, hb⟩, nd, rfl⟩
    obtain rfl : b = false := by
      cases b with
      | false => rfl
      | true => exact absurd (hb.1 rfl) Hl.out
    clear hb
    have b2 := below_seq H1.out (below_drawn_' nd)
    have hsr := sure_calls _ (HR.out.2.2.2.below b2)
    have H2 := Lib.hid b2
    clear b2
    go_wp2_with fail
    refine hsr.mono ?_
    clear hsr
    rintro e w6 ⟨rfl, b6⟩
    go_wp2_with fail
    go_ret
    exact ⟨rfl, below_seq H2.out b6⟩
theorem plays_law (A : Option Addr) (n c : Nat) (l : List Fld) (As : Option Addr) (ns cs : Nat) (ds : List OpD) (W : World) (hr : Rd W 2 A n c (l.flatMap fF)) (hl : l.length = n) (h1 : ∀ x ∈ l, fOK x) (h2 : (l.map fM).sum ≤ 1048576)
    (hr' : Rd W 4 As ns cs (ds.flatMap opF)) (hl' : ds.length = ns) (h1' : ∀ x ∈ ds, opOK x) (h2' : (ds.map opM).sum ≤ 1048576) (hL : Laid W) :
    Calls Tryd.prog 3 #[.slice A n c, .slice As ns cs] W fun e w' => e = .returned (.bool true) ∧ Below W.heap.size W w' :=
  plays_calls A n c l As ns cs ds W hr (Gd.of_sum h2) (by have := LawR.len_sum fM (fun x => by unfold fM; omega) l; omega) (rdp_of hr' hl' h1' h2') (by have := LawR.len_sum opM (fun x => by unfold opM; omega) ds; omega) hL
end Go.Proofs.YthgdkmbcibfehaaDoor.DcP
