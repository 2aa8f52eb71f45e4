/-
  Effects done on one of two spaces: Apply. Conditions: as stated.
-/
import Derived.Test.YtgmnnpbbiejbnaaGreatEfR
import Derived.Test.YtgmnnpbbiejbnaaGreatEfT
set_option maxRecDepth 100000
set_option linter.unusedSimpArgs false
set_option linter.unusedVariables false
namespace Go.Proofs.YtgmnnpbbiejbnaaGreat.EfS
open Go.RowKit Go.Proofs.YtgmnnpbbiejbnaaGreat.Mem Go.Proofs.YtgmnnpbbiejbnaaGreat.VaA Go.Proofs.YtgmnnpbbiejbnaaGreat.VaC Go.Proofs.YtgmnnpbbiejbnaaGreat.VaE Go.Proofs.YtgmnnpbbiejbnaaGreat.VaH Go.Proofs.YtgmnnpbbiejbnaaGreat.VaI Go.Proofs.YtgmnnpbbiejbnaaGreat.VaX Go.Proofs.YtgmnnpbbiejbnaaGreat.DuA Go.Proofs.YtgmnnpbbiejbnaaGreat.SpA Go.Proofs.YtgmnnpbbiejbnaaGreat.SpB Go.Proofs.YtgmnnpbbiejbnaaGreat.SpC Go.Proofs.YtgmnnpbbiejbnaaGreat.SpD Go.Proofs.YtgmnnpbbiejbnaaGreat.SpE Go.Proofs.YtgmnnpbbiejbnaaGreat.SpF Go.Proofs.YtgmnnpbbiejbnaaGreat.SpG Go.Proofs.YtgmnnpbbiejbnaaGreat.EfA Go.Proofs.YtgmnnpbbiejbnaaGreat.EfB Go.Proofs.YtgmnnpbbiejbnaaGreat.EfD Go.Proofs.YtgmnnpbbiejbnaaGreat.EfE Go.Proofs.YtgmnnpbbiejbnaaGreat.EfF Go.Proofs.YtgmnnpbbiejbnaaGreat.EfG Go.Proofs.YtgmnnpbbiejbnaaGreat.EfH Go.Proofs.YtgmnnpbbiejbnaaGreat.EfJ Go.Proofs.YtgmnnpbbiejbnaaGreat.SpH Go.Proofs.YtgmnnpbbiejbnaaGreat.SpI Go.Proofs.YtgmnnpbbiejbnaaGreat.SpJ Go.Proofs.YtgmnnpbbiejbnaaGreat.SpK Go.Proofs.YtgmnnpbbiejbnaaGreat.SpM Go.Proofs.YtgmnnpbbiejbnaaGreat.SpO Go.Proofs.YtgmnnpbbiejbnaaGreat.SpP Go.Proofs.YtgmnnpbbiejbnaaGreat.SpR Go.Proofs.YtgmnnpbbiejbnaaGreat.SpU Go.Proofs.YtgmnnpbbiejbnaaGreat.SpV Go.Proofs.YtgmnnpbbiejbnaaGreat.SpZ Go.Proofs.YtgmnnpbbiejbnaaGreat.SrC Go.Proofs.YtgmnnpbbiejbnaaGreat.EfK Go.Proofs.YtgmnnpbbiejbnaaGreat.EfR Go.Proofs.YtgmnnpbbiejbnaaGreat.EfT

set_option maxHeartbeats 8000000 in
theorem apply_pz {w : World} {B g gt N M j : Nat} {s t : PS} {Kp Z : Nat → Prop} (h : Pz w B g gt N M s t Kp Z) (A : Option Addr) (n c : Nat) (es : List EV) (ch : List PE) (hr : Rd w 8 A n c (rows EV.cells es)) (hA : ∀ ad, A = some ad → 0 < n → Kp ad.block) (he : EVs w (fun q => ¬ Kp q) es ch) (hky : ∀ e ∈ ch, e.key.size ≤ 100000000)
    {ZB : Nat} (hB : Bo s N j ZB) (hj : j + n ≤ 10000000) :
    Calls Tryz.prog 18 #[.pointer (some ⟨g, 0, none⟩), .slice A n c] w fun e w' => (ch.all mayP = true ∧ e = .returned (.int .i64 0) ∧ ∃ N', Pz w' B g gt N' M (againS s ch) t Kp Z ∧ Bo (againS s ch) N' (j + n) (ZB + WS ch) ∧ Only (fun k => ¬ Kp k) w w') ∨ (ch.all mayP = false ∧ e = .returned (.int .i64 160) ∧ Below w.heap.size w w') := by
  have hen : es.length = n := rd_rows_len ev_len (by decide) hr
  have hln : ch.length = n := by rw [← he.1]; exact hen
  have hcap := hr.cap
  have hbig := hr.big
  unfold maxLen at hbig
  have H := Lib.hid (And.intro h (And.intro hr (And.intro hA (And.intro he (And.intro True.intro (And.intro hky (And.intro hB (And.intro hen hln))))))))
  clear h hr hA he hky hB hen hln
  go_enter Tryz.func18, Tryz.ntmps18
  go_wp2_with fail
  go_loopw [17] (fun i wr => ∃ k : Nat, k ≤ n ∧ i = .int .i64 k ∧ (ch.take k).all mayP = true ∧ Below w.heap.size w wr) (fun i _ => n - (intOf i).toNat)
  case atStart => exact ⟨0, Nat.zero_le _, rfl, rfl, Below.refl _ _⟩
  case round =>
    obtain ⟨k, hk, rfl, ham, hb⟩ := hrel
    by_cases hlt : k < n
    · obtain ⟨h, hr, hA, he, -, hky, hB, hen, hln⟩ := H.out
      obtain ⟨e0, he0⟩ : ∃ e0, es[k]? = some e0 := ⟨_, List.getElem?_eq_getElem (by omega)⟩
      obtain ⟨p0, hp0⟩ : ∃ p0, ch[k]? = some p0 := ⟨_, List.getElem?_eq_getElem (by omega)⟩
      obtain ⟨MB, hMB⟩ : ∃ MB, mayP p0 = MB := ⟨_, rfl⟩
      have hmp := hMB
      obtain ⟨hmap, hval⟩ := evs_map he
      have hpe : peOf e0 = p0 := by
        have : (es.map peOf)[k]? = ch[k]? := by rw [hmap]
        rw [List.getElem?_map, he0, hp0] at this
        injection this
      obtain ⟨rv, sm⟩ := hval e0 (List.mem_of_getElem? he0)
      obtain ⟨pa, rfl, cx⟩ := rd_rows_get ev_len hr he0 (by decide)
      rw [← hpe] at hmp
      obtain ⟨kd, key, x, due⟩ := e0
      dsimp only at rv sm
      have g0 : wr.cell? (pa.add (k * 8)) = some (.int .i64 kd) := below_c (cx 0 _ rfl) hb
      have g1 : wr.cell? ⟨(pa.add (k * 8)).block, (pa.add (k * 8)).off + 1, none⟩ = some (.string key) := below_c (cx 1 _ rfl) hb
      have g2 : wr.cell? ⟨(pa.add (k * 8)).block, (pa.add (k * 8)).off + 2, none⟩ = some (.int .i64 x.kind) := below_c (cx 2 _ rfl) hb
      have g3 : wr.cell? ⟨(pa.add (k * 8)).block, (pa.add (k * 8)).off + 3, none⟩ = some (.string x.text) := below_c (cx 3 _ rfl) hb
      have g4 : wr.cell? ⟨(pa.add (k * 8)).block, (pa.add (k * 8)).off + 4, none⟩ = some (.slice x.LA x.ln x.lc) := below_c (cx 4 _ rfl) hb
      have g5 : wr.cell? ⟨(pa.add (k * 8)).block, (pa.add (k * 8)).off + 5, none⟩ = some (.slice x.FA x.fn x.fc) := below_c (cx 5 _ rfl) hb
      have g6 : wr.cell? ⟨(pa.add (k * 8)).block, (pa.add (k * 8)).off + 6, none⟩ = some (.slice x.KA x.kn x.kc) := below_c (cx 6 _ rfl) hb
      have g7 : wr.cell? ⟨(pa.add (k * 8)).block, (pa.add (k * 8)).off + 7, none⟩ = some (.int .i64 due) := below_c (cx 7 _ rfl) hb
      have hkn : ((k : Nat) : Int) < (n : Int) := by omega
      have hrv := rv.below hb
      have HQ := Lib.hid (And.intro hb (And.intro hrv (And.intro sm hmp)))
      have HM := Lib.hid (And.intro ham (And.intro hp0 hMB))
      clear h hr hA he hky hB hen hln he0 hp0 hmap hval hpe rv sm cx hb hrv hmp ham hMB
      go_upto_region 6 with fail
      generalize hW2 : wr.alloc _ = W2
      have b2 : Below wr.heap.size wr W2 := by rw [← hW2]; exact (Below.refl _ _).alloc (Nat.le_refl _) _
      have hbx : Be W2 wr.heap.size kd key x due := by rw [← hW2]; exact heap_alloc_new wr _
      generalize hgz : wr.heap.size = bx at hbx ⊢
      obtain ⟨hb, hrv, sm, hmp⟩ := HQ.out
      have hmy := may_calls ⟨kd, key, x, due⟩ W2 (hrv.below b2) sm
      rw [hmp] at hmy
      unfold evV at hmy
      dsimp only at hmy
      have hb2 := EfJ.bb hb b2
      obtain ⟨x0, x1, x2, x3, x4, x5, x6, x7⟩ := hbx.cells
      have HB2 := Lib.hid hb2
      clear hb hrv sm hmp b2 hbx hW2 hb2 g0 g1 g2 g3 g4 g5 g6 g7
      go_wp2_with fail
      refine hmy.mono ?_
      clear hmy x0 x1 x2 x3 x4 x5 x6 x7
      rintro e w4 ⟨rfl, b4⟩
      have hb4 := EfJ.bb HB2.out b4
      clear b4
      obtain ⟨ham, hp0, hMB⟩ := HM.out
      cases MB
      · have hno := may_all hp0 hMB
        have HB4 := Lib.hid (And.intro hno hb4)
        clear ham hp0 hMB hno hb4
        go_wp2_with fail
        go_ret
        exact .inr ⟨HB4.out.1, rfl, HB4.out.2⟩
      · have ham2 : (ch.take (k + 1)).all mayP = true := by rw [List.take_add_one, hp0, Option.toList_some, List.all_append, ham]; simp [hMB]
        have HB4 := Lib.hid (And.intro ham2 hb4)
        clear ham hp0 hMB ham2 hb4
        go_wp2_with fail
        exact ⟨⟨k + 1, by omega, by go_num, HB4.out.1, HB4.out.2⟩, by simp [intOf]; omega⟩
    · obtain rfl : k = n := by omega
      rw [List.take_of_length_le (Nat.le_of_eq H.out.2.2.2.2.2.2.2.2)] at ham
      have HB1 := Lib.hid hb
      have HAM := Lib.hid ham
      clear hb ham
      go_wp2_with fail
      go_loopw [35] (fun i wq => ∃ (k2 N' : Nat), k2 ≤ k ∧ i = .int .i64 k2 ∧ Pz wq B g gt N' M (againS s (ch.take k2)) t Kp Z ∧ Bo (againS s (ch.take k2)) N' (j + k2) (ZB + WS (ch.take k2)) ∧ Only (fun q => ¬ Kp q) w wq) (fun i _ => k - (intOf i).toNat)
      case atStart => exact ⟨0, N, Nat.zero_le _, rfl, H.out.1.below HB1.out, H.out.2.2.2.2.2.2.1, SpU.only_b HB1.out⟩
      case round =>
        obtain ⟨k2, N', hk2, rfl, hS, hB, ho⟩ := hrel
        by_cases hlt : k2 < k
        · obtain ⟨-, hr, hA, he, -, hky, -, hen, hln⟩ := H.out
          have hm := HAM.out
          obtain ⟨e0, he0⟩ : ∃ e0, es[k2]? = some e0 := ⟨_, List.getElem?_eq_getElem (by omega)⟩
          obtain ⟨p0, hp0⟩ : ∃ p0, ch[k2]? = some p0 := ⟨_, List.getElem?_eq_getElem (by omega)⟩
          have hmem : p0 ∈ ch := List.mem_of_getElem? hp0
          have hk4 := may_kind (List.all_eq_true.1 hm p0 hmem)
          obtain ⟨r1, r2, r3, r4⟩ := he.2 k2 e0 p0 he0 hp0
          obtain ⟨pa, rfl, cx⟩ := rd_rows_get ev_len hr he0 (by decide)
          have hpa : ∀ m, Kp (pa.add m).block := fun m => by rw [Mem.add_block]; exact hA pa rfl (by omega)
          obtain ⟨kd, key, x, due⟩ := e0
          dsimp only at r1 r2 r3 r4
          have g0 : wr.cell? (pa.add (k2 * 8)) = some (.int .i64 kd) := ho.cell (cx 0 _ rfl) (fun q => q (hpa _))
          have g1 : wr.cell? ⟨(pa.add (k2 * 8)).block, (pa.add (k2 * 8)).off + 1, none⟩ = some (.string key) := ho.cell (cx 1 _ rfl) (fun q => q (hpa _))
          have g2 : wr.cell? ⟨(pa.add (k2 * 8)).block, (pa.add (k2 * 8)).off + 2, none⟩ = some (.int .i64 x.kind) := ho.cell (cx 2 _ rfl) (fun q => q (hpa _))
          have g3 : wr.cell? ⟨(pa.add (k2 * 8)).block, (pa.add (k2 * 8)).off + 3, none⟩ = some (.string x.text) := ho.cell (cx 3 _ rfl) (fun q => q (hpa _))
          have g4 : wr.cell? ⟨(pa.add (k2 * 8)).block, (pa.add (k2 * 8)).off + 4, none⟩ = some (.slice x.LA x.ln x.lc) := ho.cell (cx 4 _ rfl) (fun q => q (hpa _))
          have g5 : wr.cell? ⟨(pa.add (k2 * 8)).block, (pa.add (k2 * 8)).off + 5, none⟩ = some (.slice x.FA x.fn x.fc) := ho.cell (cx 5 _ rfl) (fun q => q (hpa _))
          have g6 : wr.cell? ⟨(pa.add (k2 * 8)).block, (pa.add (k2 * 8)).off + 6, none⟩ = some (.slice x.KA x.kn x.kc) := ho.cell (cx 6 _ rfl) (fun q => q (hpa _))
          have g7 : wr.cell? ⟨(pa.add (k2 * 8)).block, (pa.add (k2 * 8)).off + 7, none⟩ = some (.int .i64 due) := ho.cell (cx 7 _ rfl) (fun q => q (hpa _))
          have hkn : ((k2 : Nat) : Int) < (k : Int) := by omega
          have hkey : key.size ≤ 100000000 := by rw [r2]; exact hky p0 hmem
          have hv : Vok wr (fun q => ¬ Kp q) x p0.v := r4.move ho (fun _ _ e => e) (fun _ _ e => e)
          have e9 : againS s (ch.take (k2 + 1)) = doneS (againS s (ch.take k2)) (opOf p0) := by rw [List.take_add_one, hp0]; exact again_snoc _ _ _
          have B2 := bo_done hB (su_pz hS).inv (opOf p0)
          rw [Nat.add_assoc j k2 1, Nat.add_assoc ZB _ _, ← ws_next hp0] at B2
          have HQ := Lib.hid (And.intro hS (And.intro hB (And.intro ho (And.intro hv (And.intro hkey (And.intro e9 (And.intro B2 (And.intro r1 (And.intro r2 (And.intro r3 hk4))))))))))
          clear hr hA he hm hky hen hln he0 hp0 hmem hk4 r1 r2 r3 r4 cx hpa hkey hv e9 B2 hS hB ho
          go_upto_region 13 with fail
          generalize hW2 : wr.alloc _ = W2
          have b2 : Below wr.heap.size wr W2 := by rw [← hW2]; exact (Below.refl _ _).alloc (Nat.le_refl _) _
          have hbx : Be W2 wr.heap.size kd key x due := by rw [← hW2]; exact heap_alloc_new wr _
          generalize hgz : wr.heap.size = bx at hbx ⊢
          obtain ⟨x0, x1, x2, x3, x4, x5, x6, x7⟩ := hbx.cells
          have HB2 := Lib.hid b2
          clear b2 hbx hW2 hgz g0 g1 g2 g3 g4 g5 g6 g7
          by_cases kk1 : kd = 1
          · subst kk1
            obtain ⟨hS, hB, ho, hv, hkey, e9, B2, r1, r2, r3, hk4⟩ := HQ.out
            have hp9 : p0.kind = 1 := r1.symm
            rw [dn1 hp9] at e9
            rw [nn1 hp9, dn1 hp9] at B2
            rw [← r2] at e9 B2
            rw [← r3] at e9 B2
            have hS9 := hS.below HB2.out
            have hd := put_pz hS9 key (x := x) (p := p0.v) due rfl rfl (hv.below HB2.out) hkey (by have := hB.n; omega) (by have := hB.c; omega) (by have := hB.h; omega)
            unfold VV.val at hd
            have HO := Lib.hid (And.intro ho (And.intro e9 B2))
            clear hS hB ho hv hkey e9 B2 r1 r2 r3 hk4 hp9 hS9 HQ
            go_wp2_with fail
            refine hd.mono ?_
            clear hd x0 x1 x2 x3 x4 x5 x6 x7
            rintro e w4 ⟨rfl, S4, O4⟩
            have O5 : Only (fun q => ¬ Kp q) wr w4 := (SpU.only_b HB2.out : Only (fun q => ¬ Kp q) wr W2).trans O4 (fun q e => .inl e)
            go_wp2_with fail
            exact ⟨⟨k2 + 1, _, by omega, by go_num, by rw [HO.out.2.1]; exact S4, by rw [HO.out.2.1]; exact HO.out.2.2, HO.out.1.trans O5 (fun q e => .inl e)⟩, by simp [intOf]; omega⟩
          by_cases kk2 : kd = 2
          · subst kk2
            obtain ⟨hS, hB, ho, hv, hkey, e9, B2, r1, r2, r3, hk4⟩ := HQ.out
            have hp9 : p0.kind = 2 := r1.symm
            rw [dn2 hp9] at e9
            rw [nn2 hp9, dn2 hp9] at B2
            rw [← r2] at e9 B2
            have hS9 := hS.below HB2.out
            have hd := drop_pz hS9 key rfl rfl hkey (by have := hB.n; omega) (by have := hB.c; omega) (by have := hB.h; omega)
            have HO := Lib.hid (And.intro ho (And.intro e9 B2))
            clear hS hB ho hv hkey e9 B2 r1 r2 r3 hk4 hp9 hS9 HQ
            go_wp2_with fail
            refine hd.mono ?_
            clear hd x0 x1 x2 x3 x4 x5 x6 x7
            rintro e w4 ⟨rfl, S4, O4⟩
            have O5 : Only (fun q => ¬ Kp q) wr w4 := (SpU.only_b HB2.out : Only (fun q => ¬ Kp q) wr W2).trans O4 (fun q e => .inl e)
            go_wp2_with fail
            exact ⟨⟨k2 + 1, _, by omega, by go_num, by rw [HO.out.2.1]; exact S4, by rw [HO.out.2.1]; exact HO.out.2.2, HO.out.1.trans O5 (fun q e => .inl e)⟩, by simp [intOf]; omega⟩
          by_cases kk3 : kd = 3
          · subst kk3
            obtain ⟨hS, hB, ho, hv, hkey, e9, B2, r1, r2, r3, hk4⟩ := HQ.out
            have hp9 : p0.kind = 3 := r1.symm
            rw [dn3 hp9] at e9
            rw [nn3 hp9, dn3 hp9] at B2
            rw [← r2] at e9 B2
            rw [← r3] at e9 B2
            have hS9 := hS.below HB2.out
            have hd := setDue_pz hS9 key due rfl rfl hkey (by have := hB.n; omega) (by have := hB.c; omega) (by have := hB.h; omega)
            have HO := Lib.hid (And.intro ho (And.intro e9 B2))
            clear hS hB ho hv hkey e9 B2 r1 r2 r3 hk4 hp9 hS9 HQ
            go_wp2_with fail
            refine hd.mono ?_
            clear hd x0 x1 x2 x3 x4 x5 x6 x7
            rintro e w4 ⟨rfl, S4, O4⟩
            have O5 : Only (fun q => ¬ Kp q) wr w4 := (SpU.only_b HB2.out : Only (fun q => ¬ Kp q) wr W2).trans O4 (fun q e => .inl e)
            go_wp2_with fail
            exact ⟨⟨k2 + 1, _, by omega, by go_num, by rw [HO.out.2.1]; exact S4, by rw [HO.out.2.1]; exact HO.out.2.2, HO.out.1.trans O5 (fun q e => .inl e)⟩, by simp [intOf]; omega⟩
          · obtain rfl : kd = 4 := by obtain ⟨-, -, -, -, -, -, -, r1, -, -, hk4⟩ := HQ.out; omega
            obtain ⟨hS, hB, ho, hv, hkey, e9, B2, r1, r2, r3, hk4⟩ := HQ.out
            have hp9 : p0.kind = 4 := r1.symm
            rw [dn4 hp9] at e9
            rw [nn4 hp9, dn4 hp9] at B2
            have hS9 := hS.below HB2.out
            have hd := clear_pz hS9 rfl rfl (by have := hB.n; omega) (by have := hB.c; omega) (by have := hB.h; omega)
            have HO := Lib.hid (And.intro ho (And.intro e9 B2))
            clear hS hB ho hv hkey e9 B2 r1 r2 r3 hk4 hp9 hS9 HQ
            go_wp2_with fail
            refine hd.mono ?_
            clear hd x0 x1 x2 x3 x4 x5 x6 x7
            rintro e w4 ⟨rfl, S4, O4⟩
            have O5 : Only (fun q => ¬ Kp q) wr w4 := (SpU.only_b HB2.out : Only (fun q => ¬ Kp q) wr W2).trans O4 (fun q e => .inl e)
            go_wp2_with fail
            exact ⟨⟨k2 + 1, _, by omega, by go_num, by rw [HO.out.2.1]; exact S4, by rw [HO.out.2.1]; exact HO.out.2.2, HO.out.1.trans O5 (fun q e => .inl e)⟩, by simp [intOf]; omega⟩
        · obtain rfl : k2 = k := by omega
          rw [List.take_of_length_le (Nat.le_of_eq H.out.2.2.2.2.2.2.2.2)] at hS hB
          have HX := Lib.hid (And.intro hS (And.intro hB ho))
          clear hS hB ho
          go_wp2_with fail
          go_ret
          exact .inl ⟨HAM.out, rfl, N', HX.out.1, HX.out.2.1, HX.out.2.2⟩
end Go.Proofs.YtgmnnpbbiejbnaaGreat.EfS
