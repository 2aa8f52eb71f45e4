/-
  Effects with memory of their own. Conditions: as stated.
-/
import Derived.Test.YtgmnnpbbiejbnaaGreatEfH
set_option maxRecDepth 100000
set_option linter.unusedSimpArgs false
set_option linter.unusedVariables false
namespace Go.Proofs.YtgmnnpbbiejbnaaGreat.EfI
open Go.RowKit Go.Proofs.YtgmnnpbbiejbnaaGreat.Mem Go.Proofs.YtgmnnpbbiejbnaaGreat.VaA Go.Proofs.YtgmnnpbbiejbnaaGreat.VaC Go.Proofs.YtgmnnpbbiejbnaaGreat.VaE Go.Proofs.YtgmnnpbbiejbnaaGreat.VaH Go.Proofs.YtgmnnpbbiejbnaaGreat.VaI Go.Proofs.YtgmnnpbbiejbnaaGreat.VaX Go.Proofs.YtgmnnpbbiejbnaaGreat.DuA Go.Proofs.YtgmnnpbbiejbnaaGreat.SpA Go.Proofs.YtgmnnpbbiejbnaaGreat.SpB Go.Proofs.YtgmnnpbbiejbnaaGreat.SpC Go.Proofs.YtgmnnpbbiejbnaaGreat.SpD Go.Proofs.YtgmnnpbbiejbnaaGreat.SpE Go.Proofs.YtgmnnpbbiejbnaaGreat.SpF Go.Proofs.YtgmnnpbbiejbnaaGreat.SpG Go.Proofs.YtgmnnpbbiejbnaaGreat.EfA Go.Proofs.YtgmnnpbbiejbnaaGreat.EfB Go.Proofs.YtgmnnpbbiejbnaaGreat.EfD Go.Proofs.YtgmnnpbbiejbnaaGreat.EfE Go.Proofs.YtgmnnpbbiejbnaaGreat.EfF Go.Proofs.YtgmnnpbbiejbnaaGreat.EfG Go.Proofs.YtgmnnpbbiejbnaaGreat.EfH
open Go.Proofs.YtgmnnpbbiejbnaaGreat.VaP (unle unle_lt)
open Go.Proofs.YtgmnnpbbiejbnaaGreat.VbA (decD)
open Go.Proofs.YtgmnnpbbiejbnaaGreat.VbB (NwW DecPost)
open Go.Proofs.YtgmnnpbbiejbnaaGreat.VaL (OwnS)
open Go.Proofs.YtgmnnpbbiejbnaaGreat.VaS (OwnF OwnK)
theorem Fv.none {w w' : World} {B : Nat} {v : Value} {es : List EV} {l : List PE} (h : Fv w B v es l) (ho : Only (fun _ => False) w w') : Fv w' B v es l :=
  ⟨own_only h.own ho (fun k hk e => e), h.rel.move ho (fun k hk e => e.elim) (fun k _ e => e)⟩
theorem copyR_y (x : VV) (w : World) (hr : RdV w x) (hs : Sm x) : Calls Tryz.prog 27 #[x.val] w fun e w' => ∃ y : VV, e = .returned y.val ∧ pvOf y = pvOf x ∧ RdV w' y ∧ NwV w.heap.size y ∧ Sm y ∧ Below w.heap.size w w' := by
  refine (VaV.copyR_calls x w hr hs).mono ?_
  rintro e w' ⟨A1, c1, A3, c3, A5, c5, b2, b3, rfl, hb, ho⟩
  have l1 : x.list.length = x.ln := VaC.rds_len hr.l
  have l2 : x.flds.length = x.fn := VaC.rdf_len hr.f
  have l3 : x.rank.length = x.kn := VaC.rdk_len hr.k
  have hh2 := ho.h2
  have hh3 := ho.h3
  have o1 := ho.l
  have o2 := ho.f
  have o3 := ho.k
  unfold OwnS at o1
  unfold OwnF at o2
  unfold OwnK at o3
  rw [l1] at o1
  rw [l2] at o2
  rw [l3] at o3
  have hrv : RdV w' { x with LA := A1, lc := c1, FA := A3, fc := c3, KA := A5, kc := c5 } := ⟨Rd.of_own o1, Rd.of_own o2, Rd.of_own o3⟩
  refine ⟨{ x with LA := A1, lc := c1, FA := A3, fc := c3, KA := A5, kc := c5 }, rfl, rfl, hrv, ⟨fun ad e => ?_, fun ad e => ?_, fun ad e => ?_⟩, (sm_pv hrv).2 ((sm_pv hr).1 hs), hb⟩
  · have := (o1.lt ad.block (by rw [show A1 = some ad from e]; rfl)).1; omega
  · have := (o2.lt ad.block (by rw [show A3 = some ad from e]; rfl)).1; omega
  · have := (o3.lt ad.block (by rw [show A5 = some ad from e]; rfl)).1; omega
set_option maxHeartbeats 4000000 in
theorem twin_calls (A : Option Addr) (n c : Nat) (es : List EV) (w : World) (hr : Rd w 8 A n c (rows EV.cells es)) (hok : ∀ e ∈ es, RdV w e.x ∧ Sm e.x) (hn : n ≤ 100000000) :
    Calls Tryz.prog 8 #[.slice A n c] w fun e w' => ∃ v es', e = .returned v ∧ Fv w' w.heap.size v es' (es.map peOf) ∧ Below w.heap.size w w' := by
  have hln := row_len hr
  have hcap := hr.cap
  have hbig := hr.big
  unfold maxLen at hbig
  obtain ⟨ps, hps⟩ : ∃ ps, es.map peOf = ps := ⟨_, rfl⟩
  have hpl : ps.length = n := by rw [← hps, List.length_map]; exact hln
  rw [hps]
  have H := Lib.hid (And.intro hr (And.intro hok (And.intro hln (And.intro hps hpl))))
  clear hr hok hln hps hpl
  go_enter Tryz.func8, Tryz.ntmps8
  go_wp2_with fail
  go_loopw [3, 4] (fun v i wr => ∃ (k : Nat) (es' : List EV), k ≤ n ∧ i = .int .i64 k ∧ Fv wr w.heap.size v es' (ps.take k) ∧ Below w.heap.size w wr) (fun _ i _ => n - (intOf i).toNat)
  case atStart => exact ⟨0, [], Nat.zero_le _, rfl, Fv.nil _ _, Below.refl _ _⟩
  case round =>
    obtain ⟨k, es', hk, rfl, hF, hb⟩ := hrel
    obtain ⟨A3, c3, rfl⟩ := own_form hF.own
    by_cases hlt : k < n
    · obtain ⟨hr, hok, hln, hps, hpl⟩ := H.out
      obtain ⟨e0, he0⟩ : ∃ e0, es[k]? = some e0 := ⟨_, List.getElem?_eq_getElem (by omega)⟩
      obtain ⟨rv, sm⟩ := hok e0 (List.mem_of_getElem? he0)
      have hp0 : ps[k]? = some (peOf e0) := by rw [← hps, List.getElem?_map, he0]; rfl
      obtain ⟨pa, rfl, cx⟩ := rd_rows_get ev_len hr he0 (by decide)
      obtain ⟨kd, key, x, due⟩ := e0
      dsimp only at rv sm
      have g0 : wr.cell? (pa.add (k * 8)) = some (.int .i64 kd) := below_c (cx 0 _ rfl) hb
      have g1 : wr.cell? ⟨(pa.add (k * 8)).block, (pa.add (k * 8)).off + 1, none⟩ = some (.string key) := below_c (cx 1 _ rfl) hb
      have g2 : wr.cell? ⟨(pa.add (k * 8)).block, (pa.add (k * 8)).off + 2, none⟩ = some (.int .i64 x.kind) := below_c (cx 2 _ rfl) hb
      have g3 : wr.cell? ⟨(pa.add (k * 8)).block, (pa.add (k * 8)).off + 3, none⟩ = some (.string x.text) := below_c (cx 3 _ rfl) hb
      have g4 : wr.cell? ⟨(pa.add (k * 8)).block, (pa.add (k * 8)).off + 4, none⟩ = some (.slice x.LA x.ln x.lc) := below_c (cx 4 _ rfl) hb
      have g5 : wr.cell? ⟨(pa.add (k * 8)).block, (pa.add (k * 8)).off + 5, none⟩ = some (.slice x.FA x.fn x.fc) := below_c (cx 5 _ rfl) hb
      have g6 : wr.cell? ⟨(pa.add (k * 8)).block, (pa.add (k * 8)).off + 6, none⟩ = some (.slice x.KA x.kn x.kc) := below_c (cx 6 _ rfl) hb
      have g7 : wr.cell? ⟨(pa.add (k * 8)).block, (pa.add (k * 8)).off + 7, none⟩ = some (.int .i64 due) := below_c (cx 7 _ rfl) hb
      have hkn : ((k : Nat) : Int) < (n : Int) := by omega
      have hrv := rv.below hb
      have HQ := Lib.hid (And.intro hF (And.intro hb (And.intro hp0 (And.intro hrv sm))))
      have hlb : es'.length ≤ 100000000 := by have := hF.rel.1; rw [List.length_take] at this; omega
      clear hr hok hln hps hpl he0 rv sm hp0 cx hF hb hrv
      go_upto_region 6 with fail
      generalize hW2 : wr.alloc _ = W2
      have b2 : Below wr.heap.size wr W2 := by rw [← hW2]; exact (Below.refl _ _).alloc (Nat.le_refl _) _
      have hbx : Be W2 wr.heap.size kd key x due := by rw [← hW2]; exact heap_alloc_new wr _
      obtain ⟨bx, hbx9⟩ : ∃ bx, wr.heap.size = bx := ⟨_, rfl⟩
      rw [hbx9] at hbx ⊢
      obtain ⟨hF, hb, hp0, hrv, sm⟩ := HQ.out
      have hcp := copyR_y x W2 (hrv.below b2) sm
      unfold VV.val at hcp
      obtain ⟨x0, x1, x2, x3, x4, x5, x6, x7⟩ := hbx.cells
      have H2 := Lib.hid (And.intro b2 (And.intro hbx hbx9))
      clear hW2 b2 hbx hbx9 g0 g1 g2 g3 g4 g5 g6 g7 hF hb hp0 hrv sm
      go_wp2_with fail
      refine hcp.mono ?_
      clear hcp
      rintro e w4 ⟨y, rfl, hpy, ry, ny, smy, b4⟩
      obtain ⟨b2, hbx, hbx9⟩ := H2.out
      have hbx4 : Be w4 bx kd key x due := hbx.only (SpU.only_b b4 : Only (fun _ => False) W2 w4) id
      obtain ⟨x0, x1, x2, x3, x4, x5, x6, x7⟩ := hbx4.cells
      have h2 := hbx4.free 2
      have h3 := hbx4.free 3
      have h4 := hbx4.free 4
      have h5 := hbx4.free 5
      have h6 := hbx4.free 6
      have HY := Lib.hid (And.intro hpy (And.intro ry (And.intro ny (And.intro smy (And.intro b4 hbx4)))))
      try unfold VV.val
      clear hpy ry ny smy b4 hbx4 b2 hbx hbx9
      go_upto_region 7 with fail
      generalize hW7 : ((((w4.setCell ⟨bx, 2, none⟩ (.int .i64 y.kind)).setCell ⟨bx, 3, none⟩ (.string y.text)).setCell ⟨bx, 4, none⟩ (.slice y.LA y.ln y.lc)).setCell ⟨bx, 5, none⟩ (.slice y.FA y.fn y.fc)).setCell ⟨bx, 6, none⟩ (.slice y.KA y.kn y.kc) = w7
      obtain ⟨hF, hb, hp0, hrv, sm⟩ := HQ.out
      obtain ⟨b2, hbx, hbx9⟩ := H2.out
      obtain ⟨hpy, ry, ny, smy, b4, hbx4⟩ := HY.out
      have be7 : Be w7 bx kd key y due := by rw [← hW7]; exact hbx4.putV y
      have o47 : Only (fun k => k = bx) w4 w7 := by
        rw [← hW7]
        exact (((((Only.refl (fun k => k = bx) w4).put (p := ⟨bx, 2, none⟩) (.inl rfl) _).put (p := ⟨bx, 3, none⟩) (.inl rfl) _).put (p := ⟨bx, 4, none⟩) (.inl rfl) _).put (p := ⟨bx, 5, none⟩) (.inl rfl) _).put (p := ⟨bx, 6, none⟩) (.inl rfl) _
      have o07 : Only (fun _ => False) wr w7 := (SpU.only_b (EfA.bb b2 b4) : Only (fun _ => False) wr w4).trans o47 (fun q e => .inr (by rw [show q = bx from e, ← hbx9]; exact Nat.le_refl _))
      have hF7 := Fv.none hF o07
      have hbn : bx < W2.heap.size := (Array.getElem?_eq_some_iff.1 hbx).1
      have ry7 : RdV w7 y := rdv_keep ry ny (o47.mono (fun q e => by rw [show q = bx from e]; exact hbn))
      have hwsz : wr.heap.size ≤ W2.heap.size := b2.size
      have hre : RdEv w7 (fun q => q < w.heap.size ∨ (Value.slice A3 es'.length c3).ownBlock = some q) ⟨kd, key, y, due⟩ (peOf ⟨kd, key, x, due⟩) :=
        ⟨rfl, rfl, rfl, Vok.new (B := W2.heap.size) ry7 hpy ((sm_pv ry7).1 smy |> fun h => by rw [hpy] at h; exact h) ny (fun k e => e.elim (fun e => by have := hb.size; omega) (fun e => by have := (hF.own.lt k e).2; omega))⟩
      have hb7 : Below w.heap.size w w7 := hb.trans (o07.below (Nat.le_refl _) (fun q e => e.elim) |>.mono hb.size)
      have hoA := own_only hF7.own ((Only.refl (fun _ => False) w7).alloc (.cells #[.int .i64 kd, .string key, .int .i64 y.kind, .string y.text, .slice y.LA y.ln y.lc, .slice y.FA y.fn y.fc, .slice y.KA y.kn y.kc, .int .i64 due] 44)) (fun _ _ h => h)
      have hgA : w.heap.size ≤ (w7.alloc (.cells #[.int .i64 kd, .string key, .int .i64 y.kind, .string y.text, .slice y.LA y.ln y.lc, .slice y.FA y.fn y.fc, .slice y.KA y.kn y.kc, .int .i64 due] 44)).heap.size := by rw [World.size_alloc]; have := hb7.size; omega
      have htk := List.take_succ_eq_append_getElem (List.getElem?_eq_some_iff.1 hp0).1
      rw [(List.getElem?_eq_some_iff.1 hp0).2] at htk
      obtain ⟨z0, z1, z2, z3, z4, z5, z6, z7⟩ := be7.cells
      have HN := Lib.hid (And.intro hF7 (And.intro hre (And.intro htk (And.intro hb7 hF.own))))
      clear hF hb hp0 hrv sm b2 hbx hpy ry ny smy b4 hbx4 be7 o47 o07 hF7 hbn ry7 hre hb7 htk hW7 x0 x1 x2 x3 x4 x5 x6 x7 h2 h3 h4 h5 h6 HY H2 HQ hbx9 hwsz
      go_wp2_with (at_builtin; refine wpList_app rfl (.tmp 20) (.tmp 22) elEv rfl w.heap.size (.slice A3 es'.length c3) es'.length (rows EV.cells es') rfl hoA (some ⟨w7.heap.size, 0, none⟩) 1 1 (EV.cells ⟨kd, key, y, due⟩) rfl (rd_new w7 (EV.cells ⟨kd, key, y, due⟩) 44 8 rfl) (ev_one _) (by unfold maxLen; omega) (by omega) hgA ?_; intro v6 w6 h1 h2 h3)
      obtain ⟨hF7, hre, htk, hb7, hown⟩ := HN.out
      refine ⟨⟨k + 1, es' ++ [⟨kd, key, y, due⟩], by omega, by go_num, by rw [htk]; exact hF7.next hre h1 h2 h3, ?_⟩, by simp [intOf]; omega⟩
      exact h2.after (hb7.alloc hb7.size _) (Nat.le_refl _) (fun q e => (hown.lt q e).1)
    · obtain rfl : k = n := by omega
      obtain ⟨hr, hok, hln, hps, hpl⟩ := H.out
      rw [List.take_of_length_le (Nat.le_of_eq hpl)] at hF
      have HX := Lib.hid (And.intro hF hb)
      clear hF hb hr hok hln hps hpl
      go_wp2_with fail
      go_ret
      exact ⟨_, es', rfl, HX.out.1, HX.out.2⟩
end Go.Proofs.YtgmnnpbbiejbnaaGreat.EfI
