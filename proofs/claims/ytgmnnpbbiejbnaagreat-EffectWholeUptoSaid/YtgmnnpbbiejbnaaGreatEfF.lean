/-
  The program's reader of effects: one effect, kinds 3 and 1; and all kinds. Conditions: as stated.
-/
import Derived.Test.YtgmnnpbbiejbnaaGreatEfE
import Derived.Test.YtgmnnpbbiejbnaaGreatMgJ
set_option maxRecDepth 100000
set_option linter.unusedSimpArgs false
set_option linter.unusedVariables false
namespace Go.Proofs.YtgmnnpbbiejbnaaGreat.EfF
open Go.RowKit Go.Proofs.YtgmnnpbbiejbnaaGreat.Mem Go.Proofs.YtgmnnpbbiejbnaaGreat.VaA Go.Proofs.YtgmnnpbbiejbnaaGreat.VaC Go.Proofs.YtgmnnpbbiejbnaaGreat.VaE Go.Proofs.YtgmnnpbbiejbnaaGreat.VaH Go.Proofs.YtgmnnpbbiejbnaaGreat.VaI Go.Proofs.YtgmnnpbbiejbnaaGreat.VaX Go.Proofs.YtgmnnpbbiejbnaaGreat.DuA Go.Proofs.YtgmnnpbbiejbnaaGreat.SpA Go.Proofs.YtgmnnpbbiejbnaaGreat.SpB Go.Proofs.YtgmnnpbbiejbnaaGreat.SpC Go.Proofs.YtgmnnpbbiejbnaaGreat.SpD Go.Proofs.YtgmnnpbbiejbnaaGreat.SpE Go.Proofs.YtgmnnpbbiejbnaaGreat.SpF Go.Proofs.YtgmnnpbbiejbnaaGreat.SpG Go.Proofs.YtgmnnpbbiejbnaaGreat.EfA Go.Proofs.YtgmnnpbbiejbnaaGreat.EfB Go.Proofs.YtgmnnpbbiejbnaaGreat.EfD Go.Proofs.YtgmnnpbbiejbnaaGreat.EfE
open Go.Proofs.YtgmnnpbbiejbnaaGreat.VaP (unle unle_lt)
open Go.Proofs.YtgmnnpbbiejbnaaGreat.VbA (decD)
open Go.Proofs.YtgmnnpbbiejbnaaGreat.VbB (NwW DecPost)

/-- The same, and what has been since. -/
structure Ey (w : World) (g eb : Nat) (s : ByteArray) (bad : Bool) (kd : Int) (key : ByteArray) (x : VV) (due : Int) (wb : World) (B : Nat) (wz : World) : Prop where
  es : Es w g eb s bad kd key x due wz
  o2 : Only (fun k => k < B) wb wz
  eB : eb < B
section
variable {w wb wz w' : World} {g eb B : Nat} {kd due : Int} {key s s' : ByteArray} {x : VV} {bad bad' : Bool}
theorem Ey.turn (h : Ey w g eb s bad kd key x due wb B wz) (r : Rr w' g s' bad') (o : Only (fun k => k = g) wz w') : Ey w g eb s' bad' kd key x due wb B w' := by
  have h1 := h.es.le
  have h2 := h.es.gl
  have h3 := h.eB
  exact ⟨h.es.turn r o, h.o2.trans o (fun q e => .inl (by show q < B; have : q = g := e; omega)), h.eB⟩
theorem Ey.below (h : Ey w g eb s bad kd key x due wb B wz) (hb : Below wz.heap.size wz w') : Ey w g eb s bad kd key x due wb B w' :=
  ⟨h.es.below hb, h.o2.trans (SpU.only_b hb : Only (fun _ => False) wz w') (fun q e => e.elim), h.eB⟩
theorem Ey.putB (h : Ey w g eb s bad kd key x due wb B wz) (c : Bool) : Ey w g eb s c kd key x due wb B (wz.setCell ⟨g, 1, none⟩ (.bool c)) := h.turn (h.es.r.put1 c) (put_g wz 1 _)
def putVv (w : World) (b : Nat) (y : VV) : World := ((((w.setCell ⟨b, 2, none⟩ (.int .i64 y.kind)).setCell ⟨b, 3, none⟩ (.string y.text)).setCell ⟨b, 4, none⟩ (.slice y.LA y.ln y.lc)).setCell ⟨b, 5, none⟩ (.slice y.FA y.fn y.fc)).setCell ⟨b, 6, none⟩ (.slice y.KA y.kn y.kc)
theorem Ey.putV (h : Ey w g eb s bad kd key x due wb B wz) (y : VV) : Ey w g eb s bad kd key y due wb B (putVv wz eb y) := by
  have h1 := h.es.le
  have h2 := h.es.gl
  have o : Only (fun k => k = eb) wz (putVv wz eb y) := by
    unfold putVv
    exact (((((Only.refl (fun k => k = eb) wz).put (p := ⟨eb, 2, none⟩) (.inl rfl) _).put (p := ⟨eb, 3, none⟩) (.inl rfl) _).put (p := ⟨eb, 4, none⟩) (.inl rfl) _).put (p := ⟨eb, 5, none⟩) (.inl rfl) _).put (p := ⟨eb, 6, none⟩) (.inl rfl) _
  refine ⟨⟨h.es.o.trans o (fun q e => .inr (by rw [show q = eb from e]; omega)), h.es.r.only o (by show ¬ g = eb; omega), h.es.e.putV y, h.es.z.only o (by show ¬ w.heap.size = eb; omega), h.es.le, h.es.gl⟩, h.o2.trans o (fun q e => .inl (by rw [show q = eb from e]; exact h.eB)), h.eB⟩
theorem Ey.putR (h : Ey w g eb s bad kd key x due wb B wz) : Only (fun k => k < B) wb (putAll wz w.heap.size kd key x due) := by
  have h1 := h.es.le
  have h3 := h.eB
  have o : Only (fun k => k = w.heap.size) wz (putAll wz w.heap.size kd key x due) := by
    unfold putAll
    exact ((((((((Only.refl (fun k => k = w.heap.size) wz).put (p := ⟨w.heap.size, 0, none⟩) (.inl rfl) _).put (p := ⟨w.heap.size, 1, none⟩) (.inl rfl) _).put (p := ⟨w.heap.size, 2, none⟩) (.inl rfl) _).put (p := ⟨w.heap.size, 3, none⟩) (.inl rfl) _).put (p := ⟨w.heap.size, 4, none⟩) (.inl rfl) _).put (p := ⟨w.heap.size, 5, none⟩) (.inl rfl) _).put (p := ⟨w.heap.size, 6, none⟩) (.inl rfl) _).put (p := ⟨w.heap.size, 7, none⟩) (.inl rfl) _
  exact h.o2.trans o (fun q e => .inl (by show q < B; have : q = w.heap.size := e; omega))
theorem rdv_keep {y : VV} (hr : RdV w y) (hn : NwV B y) (ho : Only (fun k => k < B) w w') : RdV w' y :=
  ⟨hr.l.only ho (fun ad e h => by have := hn.1 ad e; omega), hr.f.only ho (fun ad e h => by have := hn.2.1 ad e; omega), hr.k.only ho (fun ad e h => by have := hn.2.2 ad e; omega)⟩
theorem Bv.only {b : Nat} {kk : Int} {t : ByteArray} {L F K : Value} {S : Nat → Prop} (h : VaT.Bv w b kk t L F K) (ho : Only S w w') (hn : ¬ S b) : VaT.Bv w' b kk t L F K := ho.heap h hn
end
/-- A value that was read is no great one. -/
theorem dec_sm {s : ByteArray} {y : VV} {w : World} (hs : s.size ≤ 100000000) (hok : (decD s).ok = true) (hr : RdV w y) (hp : pvOf y = pvOf (decD s).v) : Sm y ∧ chkP (pvOf y) = 0 ∧ (decD s).st.k ≤ s.size := by
  obtain ⟨q1, q2, q3⟩ := VcR.dec_is hok
  obtain ⟨p1, p2, p3, p4, p5⟩ : y.kind = (decD s).v.kind ∧ y.text = (decD s).v.text ∧ y.list = (decD s).v.list ∧ y.flds = (decD s).v.flds ∧ y.rank = (decD s).v.rank := by
    unfold pvOf at hp; injection hp with a b c d e; exact ⟨a, b, c, d, e⟩
  have hl := VcR.len_of hr
  have hlD := VcR.bare_len (decD s).kind (decD s).text (decD s).st.l (decD s).st.f (decD s).st.r
  have al : VbE.Alike y (decD s).v := ⟨p1, p2, p3, p4, p5, by rw [← hl.l, p3]; rfl, by rw [← hl.f, p4]; rfl, by rw [← hl.r, p5]; rfl⟩
  have hc : chk y = 0 := (VbE.chk_alike al).trans q1
  have he : encV y = s.data.toList.take (decD s).st.k := (VbE.enc_alike al).trans q3.symm
  have hz : s.data.toList.length = s.size := by rw [Array.length_toList]; rfl
  refine ⟨VcS.sm_of hc hl (by rw [he, List.length_take]; omega), by rw [← chk_pv hr]; exact hc, q2⟩
set_option maxHeartbeats 8000000 in
theorem eff_3 (g : Nat) (s : ByteArray) (t : List UInt8) (w : World) (h : Rr w g s false) (hs : s.size ≤ 100000000) (hl : s.data.toList = 3 :: t) :
    Calls Tryz.prog 38 #[.pointer (some ⟨g, 0, none⟩)] w (EffPost g s w) := by
  obtain ⟨s1, hs1⟩ : ∃ s1, s.extract 1 s.size = s1 := ⟨_, rfl⟩
  have hz1 : s1.size ≤ 100000000 := by rw [← hs1, ByteArray.size_extract]; omega
  have hct := cut_calls g 1 s false (w.alloc (.cells #[.int .i64 0, .string ⟨#[]⟩, .int .i64 0, .string ⟨#[]⟩, .slice none 0 0, .slice none 0 0, .slice none 0 0, .int .i64 0] 44)) (h.only (Only.alloc (Only.refl (fun _ => False) w) _) id) (by decide) (by omega)
  rw [first_of hl, hs1] at hct
  dsimp only at hct
  obtain ⟨y0, hy0⟩ : ∃ y, y = vv0 := ⟨_, rfl⟩
  obtain ⟨n, s2, bd2, hnm⟩ : ∃ n s2 bd2, numP s1 false = (n, s2, bd2) := ⟨_, _, _, rfl⟩
  obtain ⟨key, s3, bd3, hkm⟩ : ∃ key s3 bd3, cutP s2 bd2 n = (key, s3, bd3) := ⟨_, _, _, rfl⟩
  have hnl := numP_lt s1 false
  have hz2 := numP_size s1 false
  rw [hnm] at hnl hz2
  have hz3 := cutP_size s2 bd2 n
  rw [hkm] at hz3
  dsimp only at hnl hz2 hz3
  obtain ⟨hz3, hzk⟩ := hz3
  obtain ⟨d, s4, bd4, hdm⟩ : ∃ d s4 bd4, numP s3 bd3 = (d, s4, bd4) := ⟨_, _, _, rfl⟩
  have hdl := numP_lt s3 bd3
  have hz4 := numP_size s3 bd3
  rw [hdm] at hdl hz4
  dsimp only at hdl hz4
  cases bd4 with
  | true =>
    have hef : eff1 s = none := by unfold eff1; rw [hl]; simp [hs1, hnm, hkm, hdm]
    have HN := Lib.hid hef
    have H := Lib.hid (And.intro h (And.intro hs hl))
    have HY := Lib.hid hy0
    clear h hs hl hef hs1 hy0
    go_enter Tryz.func38, Tryz.ntmps38
    go_wp2_with fail
    refine hct.mono ?_
    clear hct
    rintro e w1 ⟨rfl, r1, o1⟩
    go_upto_region 2 with fail
    generalize hw2 : w1.alloc _ = w2
    have E2 : Es w g w1.heap.size s1 false 3 ⟨#[]⟩ y0 0 w2 := by
      rw [HY.out]
      have hb : Be w2 w1.heap.size 3 ⟨#[]⟩ vv0 0 := by
        rw [← hw2]
        refine (heap_alloc_new w1 _).trans (congrArg some ?_)
        rw [ix1]
        rfl
      have o2 : Only (fun _ => False) w1 w2 := by rw [← hw2]; exact Only.alloc (Only.refl _ _) _
      have hz := heap_alloc_new w (.cells #[.int .i64 0, .string ⟨#[]⟩, .int .i64 0, .string ⟨#[]⟩, .slice none 0 0, .slice none 0 0, .slice none 0 0, .int .i64 0] 44)
      have hgl := H.out.1.lt
      have hsz : (w.alloc (.cells #[.int .i64 0, .string ⟨#[]⟩, .int .i64 0, .string ⟨#[]⟩, .slice none 0 0, .slice none 0 0, .slice none 0 0, .int .i64 0] 44)).heap.size = w.heap.size + 1 := World.size_alloc ..
      refine ⟨((Only.alloc (Only.refl (fun k => k = g) w) _).trans o1 (fun q e => .inl e)).trans o2 (fun q e => e.elim), r1.only o2 id, hb, ?_, ?_, hgl⟩
      · exact Be.only (Be.only (S := fun k => k = g) hz o1 (by show ¬ w.heap.size = g; omega)) o2 id
      · have := o1.size; omega
    generalize w1.heap.size = eb at E2 ⊢
    have HE2 := Lib.hid E2
    clear hw2 r1 o1 E2
    obtain ⟨c0, c1⟩ := HE2.out.r.cells
    have f1 := HE2.out.r.free 1
    obtain ⟨x0, x1, x2, x3, x4, x5, x6, x7⟩ := HE2.out.e.cells
    have h0 := HE2.out.e.free 0
    have h1 := HE2.out.e.free 1
    have h2 := HE2.out.e.free 2
    have h3 := HE2.out.e.free 3
    have h4 := HE2.out.e.free 4
    have h5 := HE2.out.e.free 5
    have h6 := HE2.out.e.free 6
    have h7 := HE2.out.e.free 7
    have hnu := number_calls g s1 false _ HE2.out.r (by omega)
    rw [hnm] at hnu
    go_wp2_with fail
    refine hnu.mono ?_
    clear hnu
    rintro e w3 ⟨rfl, r, o⟩
    have HE3 := Lib.hid (HE2.out.turn r o)
    clear r o HE2
    clear c0 c1 f1 x0 x1 x2 x3 x4 x5 x6 x7 h0 h1 h2 h3 h4 h5 h6 h7
    obtain ⟨c0, c1⟩ := HE3.out.r.cells
    have f1 := HE3.out.r.free 1
    obtain ⟨x0, x1, x2, x3, x4, x5, x6, x7⟩ := HE3.out.e.cells
    have h0 := HE3.out.e.free 0
    have h1 := HE3.out.e.free 1
    have h2 := HE3.out.e.free 2
    have h3 := HE3.out.e.free 3
    have h4 := HE3.out.e.free 4
    have h5 := HE3.out.e.free 5
    have h6 := HE3.out.e.free 6
    have h7 := HE3.out.e.free 7
    have hcu := cut_calls g n s2 bd2 _ HE3.out.r (by omega) (by omega)
    rw [hkm] at hcu
    go_wp2_with fail
    refine hcu.mono ?_
    clear hcu
    rintro e w4 ⟨rfl, r, o⟩
    have HE4 := Lib.hid (HE3.out.turn r o)
    clear r o HE3
    clear c0 c1 f1 x0 x1 x2 x3 x4 x5 x6 x7 h0 h1 h2 h3 h4 h5 h6 h7
    obtain ⟨c0, c1⟩ := HE4.out.r.cells
    have f1 := HE4.out.r.free 1
    obtain ⟨x0, x1, x2, x3, x4, x5, x6, x7⟩ := HE4.out.e.cells
    have h0 := HE4.out.e.free 0
    have h1 := HE4.out.e.free 1
    have h2 := HE4.out.e.free 2
    have h3 := HE4.out.e.free 3
    have h4 := HE4.out.e.free 4
    have h5 := HE4.out.e.free 5
    have h6 := HE4.out.e.free 6
    have h7 := HE4.out.e.free 7
    go_upto_region 4 with fail
    generalize hW5 : w4.setCell ⟨eb, 1, none⟩ (.string key) = w5
    have HE5 := HE4.out.put1 key
    rw [hW5] at HE5
    have HE5 := Lib.hid HE5
    clear hW5 HE4
    clear c0 c1 f1 x0 x1 x2 x3 x4 x5 x6 x7 h0 h1 h2 h3 h4 h5 h6 h7
    obtain ⟨c0, c1⟩ := HE5.out.r.cells
    have f1 := HE5.out.r.free 1
    obtain ⟨x0, x1, x2, x3, x4, x5, x6, x7⟩ := HE5.out.e.cells
    have h0 := HE5.out.e.free 0
    have h1 := HE5.out.e.free 1
    have h2 := HE5.out.e.free 2
    have h3 := HE5.out.e.free 3
    have h4 := HE5.out.e.free 4
    have h5 := HE5.out.e.free 5
    have h6 := HE5.out.e.free 6
    have h7 := HE5.out.e.free 7
    have hnu := number_calls g s3 bd3 _ HE5.out.r (by omega)
    rw [hdm] at hnu
    go_wp2_with fail
    refine hnu.mono ?_
    clear hnu
    rintro e w6 ⟨rfl, r, o⟩
    have HE6 := Lib.hid (HE5.out.turn r o)
    clear r o HE5
    clear c0 c1 f1 x0 x1 x2 x3 x4 x5 x6 x7 h0 h1 h2 h3 h4 h5 h6 h7
    obtain ⟨c0, c1⟩ := HE6.out.r.cells
    have f1 := HE6.out.r.free 1
    obtain ⟨x0, x1, x2, x3, x4, x5, x6, x7⟩ := HE6.out.e.cells
    have h0 := HE6.out.e.free 0
    have h1 := HE6.out.e.free 1
    have h2 := HE6.out.e.free 2
    have h3 := HE6.out.e.free 3
    have h4 := HE6.out.e.free 4
    have h5 := HE6.out.e.free 5
    have h6 := HE6.out.e.free 6
    have h7 := HE6.out.e.free 7
    go_upto_region 7 with fail
    generalize hW7 : w6.setCell ⟨g, 1, none⟩ (.bool true) = w7
    have HE7 := HE6.out.putB true
    rw [hW7] at HE7
    have HE7 := Lib.hid HE7
    clear hW7 HE6
    clear c0 c1 f1 x0 x1 x2 x3 x4 x5 x6 x7 h0 h1 h2 h3 h4 h5 h6 h7
    obtain ⟨c0, c1⟩ := HE7.out.r.cells
    have f1 := HE7.out.r.free 1
    obtain ⟨x0, x1, x2, x3, x4, x5, x6, x7⟩ := HE7.out.e.cells
    have h0 := HE7.out.e.free 0
    have h1 := HE7.out.e.free 1
    have h2 := HE7.out.e.free 2
    have h3 := HE7.out.e.free 3
    have h4 := HE7.out.e.free 4
    have h5 := HE7.out.e.free 5
    have h6 := HE7.out.e.free 6
    have h7 := HE7.out.e.free 7
    go_upto_region 8 with fail
    generalize hW8 : w7.setCell ⟨eb, 7, none⟩ _ = w8
    obtain ⟨dd, HE8⟩ : ∃ dd, Es w g eb s4 true 3 key y0 dd w8 := ⟨_, by rw [← hW8]; exact HE7.out.put7 _⟩
    have HE8 := Lib.hid HE8
    clear hW8 HE7
    clear c0 c1 f1 x0 x1 x2 x3 x4 x5 x6 x7 h0 h1 h2 h3 h4 h5 h6 h7
    obtain ⟨c0, c1⟩ := HE8.out.r.cells
    have f1 := HE8.out.r.free 1
    obtain ⟨x0, x1, x2, x3, x4, x5, x6, x7⟩ := HE8.out.e.cells
    have h0 := HE8.out.e.free 0
    have h1 := HE8.out.e.free 1
    have h2 := HE8.out.e.free 2
    have h3 := HE8.out.e.free 3
    have h4 := HE8.out.e.free 4
    have h5 := HE8.out.e.free 5
    have h6 := HE8.out.e.free 6
    have h7 := HE8.out.e.free 7
    go_upto_region 14 with fail
    generalize hW90 : w8.setCell ⟨g, 1, none⟩ (.bool true) = w90
    have HE90 := HE8.out.putB true
    rw [hW90] at HE90
    have HE90 := Lib.hid HE90
    clear hW90 HE8
    clear c0 c1 f1 x0 x1 x2 x3 x4 x5 x6 x7 h0 h1 h2 h3 h4 h5 h6 h7
    obtain ⟨c0, c1⟩ := HE90.out.r.cells
    have f1 := HE90.out.r.free 1
    obtain ⟨x0, x1, x2, x3, x4, x5, x6, x7⟩ := HE90.out.e.cells
    have h0 := HE90.out.e.free 0
    have h1 := HE90.out.e.free 1
    have h2 := HE90.out.e.free 2
    have h3 := HE90.out.e.free 3
    have h4 := HE90.out.e.free 4
    have h5 := HE90.out.e.free 5
    have h6 := HE90.out.e.free 6
    have h7 := HE90.out.e.free 7
    have zf0 := HE90.out.z.free 0
    have zf1 := HE90.out.z.free 1
    have zf2 := HE90.out.z.free 2
    have zf3 := HE90.out.z.free 3
    have zf4 := HE90.out.z.free 4
    have zf5 := HE90.out.z.free 5
    have zf6 := HE90.out.z.free 6
    have zf7 := HE90.out.z.free 7
    obtain ⟨zc0, zc1, zc2, zc3, zc4, zc5, zc6, zc7⟩ := HE90.out.z.cells
    go_wp2_with fail
    have q := HE90.out.putR
    unfold putAll at q
    obtain ⟨wF, hF⟩ : ∃ wF, (((((((w90.setCell ⟨w.heap.size, 0, none⟩ (.int .i64 3)).setCell ⟨w.heap.size, 1, none⟩ (.string key)).setCell ⟨w.heap.size, 2, none⟩ (.int .i64 y0.kind)).setCell ⟨w.heap.size, 3, none⟩ (.string y0.text)).setCell ⟨w.heap.size, 4, none⟩ (.slice y0.LA y0.ln y0.lc)).setCell ⟨w.heap.size, 5, none⟩ (.slice y0.FA y0.fn y0.fc)).setCell ⟨w.heap.size, 6, none⟩ (.slice y0.KA y0.kn y0.kc)).setCell ⟨w.heap.size, 7, none⟩ (.int .i64 dd) = wF := ⟨_, rfl⟩
    rw [hF] at q ⊢
    clear hF
    obtain ⟨qo, qr, qe⟩ := q
    obtain ⟨t0, t1, t2, t3, t4, t5, t6, t7⟩ := qe.cells
    refine bodyPost_ret (v := evV ⟨3, key, y0, dd⟩) (by simp [results, Tryz.f38, evV, go_sem, t0, t1, t2, t3, t4, t5, t6, t7]) rfl ?_
    exact ⟨_, rfl, qo, fun _ => ⟨_, qr⟩, fun p rest h => (by rw [HN.out] at h; cases h)⟩
  | false =>
    by_cases hdM : 9007199254740992 < d
    · have hef : eff1 s = none := by unfold eff1; rw [hl]; simp [hs1, hnm, hkm, hdm, hdM]
      have HN := Lib.hid hef
      have hg1 : decide (9007199254740992 < d) = true := decide_eq_true hdM
      have hg2 : decide ((9007199254740992 : Int) < (d : Int)) = true := decide_eq_true (by omega)
      have H := Lib.hid (And.intro h (And.intro hs hl))
      have HY := Lib.hid hy0
      clear h hs hl hef hs1 hy0
      go_enter Tryz.func38, Tryz.ntmps38
      go_wp2_with fail
      refine hct.mono ?_
      clear hct
      rintro e w1 ⟨rfl, r1, o1⟩
      go_upto_region 2 with fail
      generalize hw2 : w1.alloc _ = w2
      have E2 : Es w g w1.heap.size s1 false 3 ⟨#[]⟩ y0 0 w2 := by
        rw [HY.out]
        have hb : Be w2 w1.heap.size 3 ⟨#[]⟩ vv0 0 := by
          rw [← hw2]
          refine (heap_alloc_new w1 _).trans (congrArg some ?_)
          rw [ix1]
          rfl
        have o2 : Only (fun _ => False) w1 w2 := by rw [← hw2]; exact Only.alloc (Only.refl _ _) _
        have hz := heap_alloc_new w (.cells #[.int .i64 0, .string ⟨#[]⟩, .int .i64 0, .string ⟨#[]⟩, .slice none 0 0, .slice none 0 0, .slice none 0 0, .int .i64 0] 44)
        have hgl := H.out.1.lt
        have hsz : (w.alloc (.cells #[.int .i64 0, .string ⟨#[]⟩, .int .i64 0, .string ⟨#[]⟩, .slice none 0 0, .slice none 0 0, .slice none 0 0, .int .i64 0] 44)).heap.size = w.heap.size + 1 := World.size_alloc ..
        refine ⟨((Only.alloc (Only.refl (fun k => k = g) w) _).trans o1 (fun q e => .inl e)).trans o2 (fun q e => e.elim), r1.only o2 id, hb, ?_, ?_, hgl⟩
        · exact Be.only (Be.only (S := fun k => k = g) hz o1 (by show ¬ w.heap.size = g; omega)) o2 id
        · have := o1.size; omega
      generalize w1.heap.size = eb at E2 ⊢
      have HE2 := Lib.hid E2
      clear hw2 r1 o1 E2
      obtain ⟨c0, c1⟩ := HE2.out.r.cells
      have f1 := HE2.out.r.free 1
      obtain ⟨x0, x1, x2, x3, x4, x5, x6, x7⟩ := HE2.out.e.cells
      have h0 := HE2.out.e.free 0
      have h1 := HE2.out.e.free 1
      have h2 := HE2.out.e.free 2
      have h3 := HE2.out.e.free 3
      have h4 := HE2.out.e.free 4
      have h5 := HE2.out.e.free 5
      have h6 := HE2.out.e.free 6
      have h7 := HE2.out.e.free 7
      have hnu := number_calls g s1 false _ HE2.out.r (by omega)
      rw [hnm] at hnu
      go_wp2_with fail
      refine hnu.mono ?_
      clear hnu
      rintro e w3 ⟨rfl, r, o⟩
      have HE3 := Lib.hid (HE2.out.turn r o)
      clear r o HE2
      clear c0 c1 f1 x0 x1 x2 x3 x4 x5 x6 x7 h0 h1 h2 h3 h4 h5 h6 h7
      obtain ⟨c0, c1⟩ := HE3.out.r.cells
      have f1 := HE3.out.r.free 1
      obtain ⟨x0, x1, x2, x3, x4, x5, x6, x7⟩ := HE3.out.e.cells
      have h0 := HE3.out.e.free 0
      have h1 := HE3.out.e.free 1
      have h2 := HE3.out.e.free 2
      have h3 := HE3.out.e.free 3
      have h4 := HE3.out.e.free 4
      have h5 := HE3.out.e.free 5
      have h6 := HE3.out.e.free 6
      have h7 := HE3.out.e.free 7
      have hcu := cut_calls g n s2 bd2 _ HE3.out.r (by omega) (by omega)
      rw [hkm] at hcu
      go_wp2_with fail
      refine hcu.mono ?_
      clear hcu
      rintro e w4 ⟨rfl, r, o⟩
      have HE4 := Lib.hid (HE3.out.turn r o)
      clear r o HE3
      clear c0 c1 f1 x0 x1 x2 x3 x4 x5 x6 x7 h0 h1 h2 h3 h4 h5 h6 h7
      obtain ⟨c0, c1⟩ := HE4.out.r.cells
      have f1 := HE4.out.r.free 1
      obtain ⟨x0, x1, x2, x3, x4, x5, x6, x7⟩ := HE4.out.e.cells
      have h0 := HE4.out.e.free 0
      have h1 := HE4.out.e.free 1
      have h2 := HE4.out.e.free 2
      have h3 := HE4.out.e.free 3
      have h4 := HE4.out.e.free 4
      have h5 := HE4.out.e.free 5
      have h6 := HE4.out.e.free 6
      have h7 := HE4.out.e.free 7
      go_upto_region 4 with fail
      generalize hW5 : w4.setCell ⟨eb, 1, none⟩ (.string key) = w5
      have HE5 := HE4.out.put1 key
      rw [hW5] at HE5
      have HE5 := Lib.hid HE5
      clear hW5 HE4
      clear c0 c1 f1 x0 x1 x2 x3 x4 x5 x6 x7 h0 h1 h2 h3 h4 h5 h6 h7
      obtain ⟨c0, c1⟩ := HE5.out.r.cells
      have f1 := HE5.out.r.free 1
      obtain ⟨x0, x1, x2, x3, x4, x5, x6, x7⟩ := HE5.out.e.cells
      have h0 := HE5.out.e.free 0
      have h1 := HE5.out.e.free 1
      have h2 := HE5.out.e.free 2
      have h3 := HE5.out.e.free 3
      have h4 := HE5.out.e.free 4
      have h5 := HE5.out.e.free 5
      have h6 := HE5.out.e.free 6
      have h7 := HE5.out.e.free 7
      have hnu := number_calls g s3 bd3 _ HE5.out.r (by omega)
      rw [hdm] at hnu
      go_wp2_with fail
      refine hnu.mono ?_
      clear hnu
      rintro e w6 ⟨rfl, r, o⟩
      have HE6 := Lib.hid (HE5.out.turn r o)
      clear r o HE5
      clear c0 c1 f1 x0 x1 x2 x3 x4 x5 x6 x7 h0 h1 h2 h3 h4 h5 h6 h7
      obtain ⟨c0, c1⟩ := HE6.out.r.cells
      have f1 := HE6.out.r.free 1
      obtain ⟨x0, x1, x2, x3, x4, x5, x6, x7⟩ := HE6.out.e.cells
      have h0 := HE6.out.e.free 0
      have h1 := HE6.out.e.free 1
      have h2 := HE6.out.e.free 2
      have h3 := HE6.out.e.free 3
      have h4 := HE6.out.e.free 4
      have h5 := HE6.out.e.free 5
      have h6 := HE6.out.e.free 6
      have h7 := HE6.out.e.free 7
      go_upto_region 7 with fail
      generalize hW7 : w6.setCell ⟨g, 1, none⟩ (.bool true) = w7
      have HE7 := HE6.out.putB true
      rw [hW7] at HE7
      have HE7 := Lib.hid HE7
      clear hW7 HE6
      clear c0 c1 f1 x0 x1 x2 x3 x4 x5 x6 x7 h0 h1 h2 h3 h4 h5 h6 h7
      obtain ⟨c0, c1⟩ := HE7.out.r.cells
      have f1 := HE7.out.r.free 1
      obtain ⟨x0, x1, x2, x3, x4, x5, x6, x7⟩ := HE7.out.e.cells
      have h0 := HE7.out.e.free 0
      have h1 := HE7.out.e.free 1
      have h2 := HE7.out.e.free 2
      have h3 := HE7.out.e.free 3
      have h4 := HE7.out.e.free 4
      have h5 := HE7.out.e.free 5
      have h6 := HE7.out.e.free 6
      have h7 := HE7.out.e.free 7
      go_upto_region 8 with fail
      generalize hW8 : w7.setCell ⟨eb, 7, none⟩ _ = w8
      obtain ⟨dd, HE8⟩ : ∃ dd, Es w g eb s4 true 3 key y0 dd w8 := ⟨_, by rw [← hW8]; exact HE7.out.put7 _⟩
      have HE8 := Lib.hid HE8
      clear hW8 HE7
      clear c0 c1 f1 x0 x1 x2 x3 x4 x5 x6 x7 h0 h1 h2 h3 h4 h5 h6 h7
      obtain ⟨c0, c1⟩ := HE8.out.r.cells
      have f1 := HE8.out.r.free 1
      obtain ⟨x0, x1, x2, x3, x4, x5, x6, x7⟩ := HE8.out.e.cells
      have h0 := HE8.out.e.free 0
      have h1 := HE8.out.e.free 1
      have h2 := HE8.out.e.free 2
      have h3 := HE8.out.e.free 3
      have h4 := HE8.out.e.free 4
      have h5 := HE8.out.e.free 5
      have h6 := HE8.out.e.free 6
      have h7 := HE8.out.e.free 7
      go_upto_region 14 with fail
      generalize hW90 : w8.setCell ⟨g, 1, none⟩ (.bool true) = w90
      have HE90 := HE8.out.putB true
      rw [hW90] at HE90
      have HE90 := Lib.hid HE90
      clear hW90 HE8
      clear c0 c1 f1 x0 x1 x2 x3 x4 x5 x6 x7 h0 h1 h2 h3 h4 h5 h6 h7
      obtain ⟨c0, c1⟩ := HE90.out.r.cells
      have f1 := HE90.out.r.free 1
      obtain ⟨x0, x1, x2, x3, x4, x5, x6, x7⟩ := HE90.out.e.cells
      have h0 := HE90.out.e.free 0
      have h1 := HE90.out.e.free 1
      have h2 := HE90.out.e.free 2
      have h3 := HE90.out.e.free 3
      have h4 := HE90.out.e.free 4
      have h5 := HE90.out.e.free 5
      have h6 := HE90.out.e.free 6
      have h7 := HE90.out.e.free 7
      have zf0 := HE90.out.z.free 0
      have zf1 := HE90.out.z.free 1
      have zf2 := HE90.out.z.free 2
      have zf3 := HE90.out.z.free 3
      have zf4 := HE90.out.z.free 4
      have zf5 := HE90.out.z.free 5
      have zf6 := HE90.out.z.free 6
      have zf7 := HE90.out.z.free 7
      obtain ⟨zc0, zc1, zc2, zc3, zc4, zc5, zc6, zc7⟩ := HE90.out.z.cells
      go_wp2_with fail
      have q := HE90.out.putR
      unfold putAll at q
      obtain ⟨wF, hF⟩ : ∃ wF, (((((((w90.setCell ⟨w.heap.size, 0, none⟩ (.int .i64 3)).setCell ⟨w.heap.size, 1, none⟩ (.string key)).setCell ⟨w.heap.size, 2, none⟩ (.int .i64 y0.kind)).setCell ⟨w.heap.size, 3, none⟩ (.string y0.text)).setCell ⟨w.heap.size, 4, none⟩ (.slice y0.LA y0.ln y0.lc)).setCell ⟨w.heap.size, 5, none⟩ (.slice y0.FA y0.fn y0.fc)).setCell ⟨w.heap.size, 6, none⟩ (.slice y0.KA y0.kn y0.kc)).setCell ⟨w.heap.size, 7, none⟩ (.int .i64 dd) = wF := ⟨_, rfl⟩
      rw [hF] at q ⊢
      clear hF
      obtain ⟨qo, qr, qe⟩ := q
      obtain ⟨t0, t1, t2, t3, t4, t5, t6, t7⟩ := qe.cells
      refine bodyPost_ret (v := evV ⟨3, key, y0, dd⟩) (by simp [results, Tryz.f38, evV, go_sem, t0, t1, t2, t3, t4, t5, t6, t7]) rfl ?_
      exact ⟨_, rfl, qo, fun _ => ⟨_, qr⟩, fun p rest h => (by rw [HN.out] at h; cases h)⟩
    · have hef : eff1 s = some (⟨3, key, pv0, (d : Nat)⟩, s4) := by unfold eff1; rw [hl]; simp [hs1, hnm, hkm, hdm, hdM]
      have HN := Lib.hid hef
      have hg1 : decide (9007199254740992 < d) = false := decide_eq_false hdM
      have hg2 : decide ((9007199254740992 : Int) < (d : Int)) = false := decide_eq_false (by omega)
      have hg3 : ((d : Nat) : Int) ≤ 9007199254740992 := by omega
      have HMAY := Lib.hid (show mayP (peOf ⟨3, key, y0, (d : Int)⟩) = true by unfold mayP peOf; rw [hy0]; dsimp only; rw [if_neg (by decide), if_neg (by decide), if_pos rfl, (tick_iff _).2 (by omega)]; rfl)
      have H := Lib.hid (And.intro h (And.intro hs hl))
      have HY := Lib.hid hy0
      clear h hs hl hef hs1 hy0
      go_enter Tryz.func38, Tryz.ntmps38
      go_wp2_with fail
      refine hct.mono ?_
      clear hct
      rintro e w1 ⟨rfl, r1, o1⟩
      go_upto_region 2 with fail
      generalize hw2 : w1.alloc _ = w2
      have E2 : Es w g w1.heap.size s1 false 3 ⟨#[]⟩ y0 0 w2 := by
        rw [HY.out]
        have hb : Be w2 w1.heap.size 3 ⟨#[]⟩ vv0 0 := by
          rw [← hw2]
          refine (heap_alloc_new w1 _).trans (congrArg some ?_)
          rw [ix1]
          rfl
        have o2 : Only (fun _ => False) w1 w2 := by rw [← hw2]; exact Only.alloc (Only.refl _ _) _
        have hz := heap_alloc_new w (.cells #[.int .i64 0, .string ⟨#[]⟩, .int .i64 0, .string ⟨#[]⟩, .slice none 0 0, .slice none 0 0, .slice none 0 0, .int .i64 0] 44)
        have hgl := H.out.1.lt
        have hsz : (w.alloc (.cells #[.int .i64 0, .string ⟨#[]⟩, .int .i64 0, .string ⟨#[]⟩, .slice none 0 0, .slice none 0 0, .slice none 0 0, .int .i64 0] 44)).heap.size = w.heap.size + 1 := World.size_alloc ..
        refine ⟨((Only.alloc (Only.refl (fun k => k = g) w) _).trans o1 (fun q e => .inl e)).trans o2 (fun q e => e.elim), r1.only o2 id, hb, ?_, ?_, hgl⟩
        · exact Be.only (Be.only (S := fun k => k = g) hz o1 (by show ¬ w.heap.size = g; omega)) o2 id
        · have := o1.size; omega
      generalize w1.heap.size = eb at E2 ⊢
      have HE2 := Lib.hid E2
      clear hw2 r1 o1 E2
      obtain ⟨c0, c1⟩ := HE2.out.r.cells
      have f1 := HE2.out.r.free 1
      obtain ⟨x0, x1, x2, x3, x4, x5, x6, x7⟩ := HE2.out.e.cells
      have h0 := HE2.out.e.free 0
      have h1 := HE2.out.e.free 1
      have h2 := HE2.out.e.free 2
      have h3 := HE2.out.e.free 3
      have h4 := HE2.out.e.free 4
      have h5 := HE2.out.e.free 5
      have h6 := HE2.out.e.free 6
      have h7 := HE2.out.e.free 7
      have hnu := number_calls g s1 false _ HE2.out.r (by omega)
      rw [hnm] at hnu
      go_wp2_with fail
      refine hnu.mono ?_
      clear hnu
      rintro e w3 ⟨rfl, r, o⟩
      have HE3 := Lib.hid (HE2.out.turn r o)
      clear r o HE2
      clear c0 c1 f1 x0 x1 x2 x3 x4 x5 x6 x7 h0 h1 h2 h3 h4 h5 h6 h7
      obtain ⟨c0, c1⟩ := HE3.out.r.cells
      have f1 := HE3.out.r.free 1
      obtain ⟨x0, x1, x2, x3, x4, x5, x6, x7⟩ := HE3.out.e.cells
      have h0 := HE3.out.e.free 0
      have h1 := HE3.out.e.free 1
      have h2 := HE3.out.e.free 2
      have h3 := HE3.out.e.free 3
      have h4 := HE3.out.e.free 4
      have h5 := HE3.out.e.free 5
      have h6 := HE3.out.e.free 6
      have h7 := HE3.out.e.free 7
      have hcu := cut_calls g n s2 bd2 _ HE3.out.r (by omega) (by omega)
      rw [hkm] at hcu
      go_wp2_with fail
      refine hcu.mono ?_
      clear hcu
      rintro e w4 ⟨rfl, r, o⟩
      have HE4 := Lib.hid (HE3.out.turn r o)
      clear r o HE3
      clear c0 c1 f1 x0 x1 x2 x3 x4 x5 x6 x7 h0 h1 h2 h3 h4 h5 h6 h7
      obtain ⟨c0, c1⟩ := HE4.out.r.cells
      have f1 := HE4.out.r.free 1
      obtain ⟨x0, x1, x2, x3, x4, x5, x6, x7⟩ := HE4.out.e.cells
      have h0 := HE4.out.e.free 0
      have h1 := HE4.out.e.free 1
      have h2 := HE4.out.e.free 2
      have h3 := HE4.out.e.free 3
      have h4 := HE4.out.e.free 4
      have h5 := HE4.out.e.free 5
      have h6 := HE4.out.e.free 6
      have h7 := HE4.out.e.free 7
      go_upto_region 4 with fail
      generalize hW5 : w4.setCell ⟨eb, 1, none⟩ (.string key) = w5
      have HE5 := HE4.out.put1 key
      rw [hW5] at HE5
      have HE5 := Lib.hid HE5
      clear hW5 HE4
      clear c0 c1 f1 x0 x1 x2 x3 x4 x5 x6 x7 h0 h1 h2 h3 h4 h5 h6 h7
      obtain ⟨c0, c1⟩ := HE5.out.r.cells
      have f1 := HE5.out.r.free 1
      obtain ⟨x0, x1, x2, x3, x4, x5, x6, x7⟩ := HE5.out.e.cells
      have h0 := HE5.out.e.free 0
      have h1 := HE5.out.e.free 1
      have h2 := HE5.out.e.free 2
      have h3 := HE5.out.e.free 3
      have h4 := HE5.out.e.free 4
      have h5 := HE5.out.e.free 5
      have h6 := HE5.out.e.free 6
      have h7 := HE5.out.e.free 7
      have hnu := number_calls g s3 bd3 _ HE5.out.r (by omega)
      rw [hdm] at hnu
      go_wp2_with fail
      refine hnu.mono ?_
      clear hnu
      rintro e w6 ⟨rfl, r, o⟩
      have HE6 := Lib.hid (HE5.out.turn r o)
      clear r o HE5
      clear c0 c1 f1 x0 x1 x2 x3 x4 x5 x6 x7 h0 h1 h2 h3 h4 h5 h6 h7
      obtain ⟨c0, c1⟩ := HE6.out.r.cells
      have f1 := HE6.out.r.free 1
      obtain ⟨x0, x1, x2, x3, x4, x5, x6, x7⟩ := HE6.out.e.cells
      have h0 := HE6.out.e.free 0
      have h1 := HE6.out.e.free 1
      have h2 := HE6.out.e.free 2
      have h3 := HE6.out.e.free 3
      have h4 := HE6.out.e.free 4
      have h5 := HE6.out.e.free 5
      have h6 := HE6.out.e.free 6
      have h7 := HE6.out.e.free 7
      go_upto_region 7 with fail
      generalize hW7 : w6.setCell ⟨g, 1, none⟩ (.bool false) = w7
      have HE7 := HE6.out.putB false
      rw [hW7] at HE7
      have HE7 := Lib.hid HE7
      clear hW7 HE6
      clear c0 c1 f1 x0 x1 x2 x3 x4 x5 x6 x7 h0 h1 h2 h3 h4 h5 h6 h7
      obtain ⟨c0, c1⟩ := HE7.out.r.cells
      have f1 := HE7.out.r.free 1
      obtain ⟨x0, x1, x2, x3, x4, x5, x6, x7⟩ := HE7.out.e.cells
      have h0 := HE7.out.e.free 0
      have h1 := HE7.out.e.free 1
      have h2 := HE7.out.e.free 2
      have h3 := HE7.out.e.free 3
      have h4 := HE7.out.e.free 4
      have h5 := HE7.out.e.free 5
      have h6 := HE7.out.e.free 6
      have h7 := HE7.out.e.free 7
      go_upto_region 8 with fail
      generalize hW8 : w7.setCell ⟨eb, 7, none⟩ (.int .i64 (d : Int)) = w8
      have HE8 := HE7.out.put7 (d : Int)
      rw [hW8] at HE8
      have HE8 := Lib.hid HE8
      clear hW8 HE7
      clear c0 c1 f1 x0 x1 x2 x3 x4 x5 x6 x7 h0 h1 h2 h3 h4 h5 h6 h7
      obtain ⟨c0, c1⟩ := HE8.out.r.cells
      have f1 := HE8.out.r.free 1
      obtain ⟨x0, x1, x2, x3, x4, x5, x6, x7⟩ := HE8.out.e.cells
      have h0 := HE8.out.e.free 0
      have h1 := HE8.out.e.free 1
      have h2 := HE8.out.e.free 2
      have h3 := HE8.out.e.free 3
      have h4 := HE8.out.e.free 4
      have h5 := HE8.out.e.free 5
      have h6 := HE8.out.e.free 6
      have h7 := HE8.out.e.free 7
      have hmy := may_calls ⟨3, key, y0, (d : Int)⟩ w8 (by rw [HY.out]; exact rdv0 _) (by rw [HY.out]; exact sm0)
      rw [show mayP (peOf ⟨3, key, y0, (d : Int)⟩) = true from HMAY.out] at hmy
      unfold evV at hmy
      dsimp only at hmy
      go_wp2_with fail
      refine hmy.mono ?_
      clear hmy
      rintro e w9 ⟨rfl, bm⟩
      have HE9 := Lib.hid (HE8.out.below bm)
      have HBM := Lib.hid bm
      clear bm HE8
      clear c0 c1 f1 x0 x1 x2 x3 x4 x5 x6 x7 h0 h1 h2 h3 h4 h5 h6 h7
      obtain ⟨c0, c1⟩ := HE9.out.r.cells
      have f1 := HE9.out.r.free 1
      obtain ⟨x0, x1, x2, x3, x4, x5, x6, x7⟩ := HE9.out.e.cells
      have h0 := HE9.out.e.free 0
      have h1 := HE9.out.e.free 1
      have h2 := HE9.out.e.free 2
      have h3 := HE9.out.e.free 3
      have h4 := HE9.out.e.free 4
      have h5 := HE9.out.e.free 5
      have h6 := HE9.out.e.free 6
      have h7 := HE9.out.e.free 7
      go_upto_region 14 with fail
      generalize hW90 : w9.setCell ⟨g, 1, none⟩ (.bool false) = w90
      have HE90 := HE9.out.putB false
      rw [hW90] at HE90
      have HE90 := Lib.hid HE90
      clear hW90 HE9
      clear c0 c1 f1 x0 x1 x2 x3 x4 x5 x6 x7 h0 h1 h2 h3 h4 h5 h6 h7
      obtain ⟨c0, c1⟩ := HE90.out.r.cells
      have f1 := HE90.out.r.free 1
      obtain ⟨x0, x1, x2, x3, x4, x5, x6, x7⟩ := HE90.out.e.cells
      have h0 := HE90.out.e.free 0
      have h1 := HE90.out.e.free 1
      have h2 := HE90.out.e.free 2
      have h3 := HE90.out.e.free 3
      have h4 := HE90.out.e.free 4
      have h5 := HE90.out.e.free 5
      have h6 := HE90.out.e.free 6
      have h7 := HE90.out.e.free 7
      have zf0 := HE90.out.z.free 0
      have zf1 := HE90.out.z.free 1
      have zf2 := HE90.out.z.free 2
      have zf3 := HE90.out.z.free 3
      have zf4 := HE90.out.z.free 4
      have zf5 := HE90.out.z.free 5
      have zf6 := HE90.out.z.free 6
      have zf7 := HE90.out.z.free 7
      obtain ⟨zc0, zc1, zc2, zc3, zc4, zc5, zc6, zc7⟩ := HE90.out.z.cells
      go_wp2_with fail
      have q := HE90.out.putR
      unfold putAll at q
      obtain ⟨wF, hF⟩ : ∃ wF, (((((((w90.setCell ⟨w.heap.size, 0, none⟩ (.int .i64 3)).setCell ⟨w.heap.size, 1, none⟩ (.string key)).setCell ⟨w.heap.size, 2, none⟩ (.int .i64 y0.kind)).setCell ⟨w.heap.size, 3, none⟩ (.string y0.text)).setCell ⟨w.heap.size, 4, none⟩ (.slice y0.LA y0.ln y0.lc)).setCell ⟨w.heap.size, 5, none⟩ (.slice y0.FA y0.fn y0.fc)).setCell ⟨w.heap.size, 6, none⟩ (.slice y0.KA y0.kn y0.kc)).setCell ⟨w.heap.size, 7, none⟩ (.int .i64 (d : Int)) = wF := ⟨_, rfl⟩
      rw [hF] at q ⊢
      clear hF
      obtain ⟨qo, qr, qe⟩ := q
      obtain ⟨t0, t1, t2, t3, t4, t5, t6, t7⟩ := qe.cells
      refine bodyPost_ret (v := evV ⟨3, key, y0, (d : Int)⟩) (by simp [results, Tryz.f38, evV, go_sem, t0, t1, t2, t3, t4, t5, t6, t7]) rfl ?_
      refine ⟨_, rfl, qo, fun h => (by rw [HN.out] at h; cases h), fun p rest h => ?_⟩
      rw [HN.out] at h
      injection h with h
      injection h with h1 h2
      subst h1 h2
      exact ⟨qr, (by unfold peOf; rw [HY.out]; rfl), (by rw [HY.out]; exact rdv0 _), (by rw [HY.out]; exact nwv0 _), (by rw [HY.out]; exact sm0)⟩
set_option maxHeartbeats 8000000 in
theorem eff_1 (g : Nat) (s : ByteArray) (t : List UInt8) (w : World) (h : Rr w g s false) (hs : s.size ≤ 100000000) (hl : s.data.toList = 1 :: t) :
    Calls Tryz.prog 38 #[.pointer (some ⟨g, 0, none⟩)] w (EffPost g s w) := by
  obtain ⟨s1, hs1⟩ : ∃ s1, s.extract 1 s.size = s1 := ⟨_, rfl⟩
  have hz1 : s1.size ≤ 100000000 := by rw [← hs1, ByteArray.size_extract]; omega
  have hct := cut_calls g 1 s false (w.alloc (.cells #[.int .i64 0, .string ⟨#[]⟩, .int .i64 0, .string ⟨#[]⟩, .slice none 0 0, .slice none 0 0, .slice none 0 0, .int .i64 0] 44)) (h.only (Only.alloc (Only.refl (fun _ => False) w) _) id) (by decide) (by omega)
  rw [first_of hl, hs1] at hct
  dsimp only at hct
  obtain ⟨y0, hy0⟩ : ∃ y, y = vv0 := ⟨_, rfl⟩
  obtain ⟨n, s2, bd2, hnm⟩ : ∃ n s2 bd2, numP s1 false = (n, s2, bd2) := ⟨_, _, _, rfl⟩
  obtain ⟨key, s3, bd3, hkm⟩ : ∃ key s3 bd3, cutP s2 bd2 n = (key, s3, bd3) := ⟨_, _, _, rfl⟩
  have hnl := numP_lt s1 false
  have hz2 := numP_size s1 false
  rw [hnm] at hnl hz2
  have hz3 := cutP_size s2 bd2 n
  rw [hkm] at hz3
  dsimp only at hnl hz2 hz3
  obtain ⟨hz3, hzk⟩ := hz3
  obtain ⟨d, s4, bd4, hdm⟩ : ∃ d s4 bd4, numP s3 bd3 = (d, s4, bd4) := ⟨_, _, _, rfl⟩
  have hdl := numP_lt s3 bd3
  have hz4 := numP_size s3 bd3
  rw [hdm] at hdl hz4
  dsimp only at hdl hz4
  cases bd4 with
  | true =>
    have hef : eff1 s = none := by unfold eff1; rw [hl]; simp [hs1, hnm, hkm, hdm]
    have HN := Lib.hid hef
    have H := Lib.hid (And.intro h (And.intro hs hl))
    have HY := Lib.hid hy0
    clear h hs hl hef hs1 hy0
    go_enter Tryz.func38, Tryz.ntmps38
    go_wp2_with fail
    refine hct.mono ?_
    clear hct
    rintro e w1 ⟨rfl, r1, o1⟩
    go_upto_region 2 with fail
    generalize hw2 : w1.alloc _ = w2
    have E2 : Es w g w1.heap.size s1 false 1 ⟨#[]⟩ y0 0 w2 := by
      rw [HY.out]
      have hb : Be w2 w1.heap.size 1 ⟨#[]⟩ vv0 0 := by
        rw [← hw2]
        refine (heap_alloc_new w1 _).trans (congrArg some ?_)
        rw [ix1]
        rfl
      have o2 : Only (fun _ => False) w1 w2 := by rw [← hw2]; exact Only.alloc (Only.refl _ _) _
      have hz := heap_alloc_new w (.cells #[.int .i64 0, .string ⟨#[]⟩, .int .i64 0, .string ⟨#[]⟩, .slice none 0 0, .slice none 0 0, .slice none 0 0, .int .i64 0] 44)
      have hgl := H.out.1.lt
      have hsz : (w.alloc (.cells #[.int .i64 0, .string ⟨#[]⟩, .int .i64 0, .string ⟨#[]⟩, .slice none 0 0, .slice none 0 0, .slice none 0 0, .int .i64 0] 44)).heap.size = w.heap.size + 1 := World.size_alloc ..
      refine ⟨((Only.alloc (Only.refl (fun k => k = g) w) _).trans o1 (fun q e => .inl e)).trans o2 (fun q e => e.elim), r1.only o2 id, hb, ?_, ?_, hgl⟩
      · exact Be.only (Be.only (S := fun k => k = g) hz o1 (by show ¬ w.heap.size = g; omega)) o2 id
      · have := o1.size; omega
    generalize w1.heap.size = eb at E2 ⊢
    have HE2 := Lib.hid E2
    clear hw2 r1 o1 E2
    obtain ⟨c0, c1⟩ := HE2.out.r.cells
    have f1 := HE2.out.r.free 1
    obtain ⟨x0, x1, x2, x3, x4, x5, x6, x7⟩ := HE2.out.e.cells
    have h0 := HE2.out.e.free 0
    have h1 := HE2.out.e.free 1
    have h2 := HE2.out.e.free 2
    have h3 := HE2.out.e.free 3
    have h4 := HE2.out.e.free 4
    have h5 := HE2.out.e.free 5
    have h6 := HE2.out.e.free 6
    have h7 := HE2.out.e.free 7
    have hnu := number_calls g s1 false _ HE2.out.r (by omega)
    rw [hnm] at hnu
    go_wp2_with fail
    refine hnu.mono ?_
    clear hnu
    rintro e w3 ⟨rfl, r, o⟩
    have HE3 := Lib.hid (HE2.out.turn r o)
    clear r o HE2
    clear c0 c1 f1 x0 x1 x2 x3 x4 x5 x6 x7 h0 h1 h2 h3 h4 h5 h6 h7
    obtain ⟨c0, c1⟩ := HE3.out.r.cells
    have f1 := HE3.out.r.free 1
    obtain ⟨x0, x1, x2, x3, x4, x5, x6, x7⟩ := HE3.out.e.cells
    have h0 := HE3.out.e.free 0
    have h1 := HE3.out.e.free 1
    have h2 := HE3.out.e.free 2
    have h3 := HE3.out.e.free 3
    have h4 := HE3.out.e.free 4
    have h5 := HE3.out.e.free 5
    have h6 := HE3.out.e.free 6
    have h7 := HE3.out.e.free 7
    have hcu := cut_calls g n s2 bd2 _ HE3.out.r (by omega) (by omega)
    rw [hkm] at hcu
    go_wp2_with fail
    refine hcu.mono ?_
    clear hcu
    rintro e w4 ⟨rfl, r, o⟩
    have HE4 := Lib.hid (HE3.out.turn r o)
    clear r o HE3
    clear c0 c1 f1 x0 x1 x2 x3 x4 x5 x6 x7 h0 h1 h2 h3 h4 h5 h6 h7
    obtain ⟨c0, c1⟩ := HE4.out.r.cells
    have f1 := HE4.out.r.free 1
    obtain ⟨x0, x1, x2, x3, x4, x5, x6, x7⟩ := HE4.out.e.cells
    have h0 := HE4.out.e.free 0
    have h1 := HE4.out.e.free 1
    have h2 := HE4.out.e.free 2
    have h3 := HE4.out.e.free 3
    have h4 := HE4.out.e.free 4
    have h5 := HE4.out.e.free 5
    have h6 := HE4.out.e.free 6
    have h7 := HE4.out.e.free 7
    go_upto_region 4 with fail
    generalize hW5 : w4.setCell ⟨eb, 1, none⟩ (.string key) = w5
    have HE5 := HE4.out.put1 key
    rw [hW5] at HE5
    have HE5 := Lib.hid HE5
    clear hW5 HE4
    clear c0 c1 f1 x0 x1 x2 x3 x4 x5 x6 x7 h0 h1 h2 h3 h4 h5 h6 h7
    obtain ⟨c0, c1⟩ := HE5.out.r.cells
    have f1 := HE5.out.r.free 1
    obtain ⟨x0, x1, x2, x3, x4, x5, x6, x7⟩ := HE5.out.e.cells
    have h0 := HE5.out.e.free 0
    have h1 := HE5.out.e.free 1
    have h2 := HE5.out.e.free 2
    have h3 := HE5.out.e.free 3
    have h4 := HE5.out.e.free 4
    have h5 := HE5.out.e.free 5
    have h6 := HE5.out.e.free 6
    have h7 := HE5.out.e.free 7
    have hnu := number_calls g s3 bd3 _ HE5.out.r (by omega)
    rw [hdm] at hnu
    go_wp2_with fail
    refine hnu.mono ?_
    clear hnu
    rintro e w6 ⟨rfl, r, o⟩
    have HE6 := Lib.hid (HE5.out.turn r o)
    clear r o HE5
    clear c0 c1 f1 x0 x1 x2 x3 x4 x5 x6 x7 h0 h1 h2 h3 h4 h5 h6 h7
    obtain ⟨c0, c1⟩ := HE6.out.r.cells
    have f1 := HE6.out.r.free 1
    obtain ⟨x0, x1, x2, x3, x4, x5, x6, x7⟩ := HE6.out.e.cells
    have h0 := HE6.out.e.free 0
    have h1 := HE6.out.e.free 1
    have h2 := HE6.out.e.free 2
    have h3 := HE6.out.e.free 3
    have h4 := HE6.out.e.free 4
    have h5 := HE6.out.e.free 5
    have h6 := HE6.out.e.free 6
    have h7 := HE6.out.e.free 7
    go_upto_region 7 with fail
    generalize hW7 : w6.setCell ⟨g, 1, none⟩ (.bool true) = w7
    have HE7 := HE6.out.putB true
    rw [hW7] at HE7
    have HE7 := Lib.hid HE7
    clear hW7 HE6
    clear c0 c1 f1 x0 x1 x2 x3 x4 x5 x6 x7 h0 h1 h2 h3 h4 h5 h6 h7
    obtain ⟨c0, c1⟩ := HE7.out.r.cells
    have f1 := HE7.out.r.free 1
    obtain ⟨x0, x1, x2, x3, x4, x5, x6, x7⟩ := HE7.out.e.cells
    have h0 := HE7.out.e.free 0
    have h1 := HE7.out.e.free 1
    have h2 := HE7.out.e.free 2
    have h3 := HE7.out.e.free 3
    have h4 := HE7.out.e.free 4
    have h5 := HE7.out.e.free 5
    have h6 := HE7.out.e.free 6
    have h7 := HE7.out.e.free 7
    go_upto_region 8 with fail
    generalize hW8 : w7.setCell ⟨eb, 7, none⟩ _ = w8
    obtain ⟨dd, HE8⟩ : ∃ dd, Es w g eb s4 true 1 key y0 dd w8 := ⟨_, by rw [← hW8]; exact HE7.out.put7 _⟩
    have HE8 := Lib.hid HE8
    clear hW8 HE7
    clear c0 c1 f1 x0 x1 x2 x3 x4 x5 x6 x7 h0 h1 h2 h3 h4 h5 h6 h7
    obtain ⟨c0, c1⟩ := HE8.out.r.cells
    have f1 := HE8.out.r.free 1
    obtain ⟨x0, x1, x2, x3, x4, x5, x6, x7⟩ := HE8.out.e.cells
    have h0 := HE8.out.e.free 0
    have h1 := HE8.out.e.free 1
    have h2 := HE8.out.e.free 2
    have h3 := HE8.out.e.free 3
    have h4 := HE8.out.e.free 4
    have h5 := HE8.out.e.free 5
    have h6 := HE8.out.e.free 6
    have h7 := HE8.out.e.free 7
    go_upto_region 14 with fail
    generalize hW90 : w8.setCell ⟨g, 1, none⟩ (.bool true) = w90
    have HE90 := HE8.out.putB true
    rw [hW90] at HE90
    have HE90 := Lib.hid HE90
    clear hW90 HE8
    clear c0 c1 f1 x0 x1 x2 x3 x4 x5 x6 x7 h0 h1 h2 h3 h4 h5 h6 h7
    obtain ⟨c0, c1⟩ := HE90.out.r.cells
    have f1 := HE90.out.r.free 1
    obtain ⟨x0, x1, x2, x3, x4, x5, x6, x7⟩ := HE90.out.e.cells
    have h0 := HE90.out.e.free 0
    have h1 := HE90.out.e.free 1
    have h2 := HE90.out.e.free 2
    have h3 := HE90.out.e.free 3
    have h4 := HE90.out.e.free 4
    have h5 := HE90.out.e.free 5
    have h6 := HE90.out.e.free 6
    have h7 := HE90.out.e.free 7
    have zf0 := HE90.out.z.free 0
    have zf1 := HE90.out.z.free 1
    have zf2 := HE90.out.z.free 2
    have zf3 := HE90.out.z.free 3
    have zf4 := HE90.out.z.free 4
    have zf5 := HE90.out.z.free 5
    have zf6 := HE90.out.z.free 6
    have zf7 := HE90.out.z.free 7
    obtain ⟨zc0, zc1, zc2, zc3, zc4, zc5, zc6, zc7⟩ := HE90.out.z.cells
    go_wp2_with fail
    have q := HE90.out.putR
    unfold putAll at q
    obtain ⟨wF, hF⟩ : ∃ wF, (((((((w90.setCell ⟨w.heap.size, 0, none⟩ (.int .i64 1)).setCell ⟨w.heap.size, 1, none⟩ (.string key)).setCell ⟨w.heap.size, 2, none⟩ (.int .i64 y0.kind)).setCell ⟨w.heap.size, 3, none⟩ (.string y0.text)).setCell ⟨w.heap.size, 4, none⟩ (.slice y0.LA y0.ln y0.lc)).setCell ⟨w.heap.size, 5, none⟩ (.slice y0.FA y0.fn y0.fc)).setCell ⟨w.heap.size, 6, none⟩ (.slice y0.KA y0.kn y0.kc)).setCell ⟨w.heap.size, 7, none⟩ (.int .i64 dd) = wF := ⟨_, rfl⟩
    rw [hF] at q ⊢
    clear hF
    obtain ⟨qo, qr, qe⟩ := q
    obtain ⟨t0, t1, t2, t3, t4, t5, t6, t7⟩ := qe.cells
    refine bodyPost_ret (v := evV ⟨1, key, y0, dd⟩) (by simp [results, Tryz.f38, evV, go_sem, t0, t1, t2, t3, t4, t5, t6, t7]) rfl ?_
    exact ⟨_, rfl, qo, fun _ => ⟨_, qr⟩, fun p rest h => (by rw [HN.out] at h; cases h)⟩
  | false =>
    by_cases hdM : 9007199254740992 < d
    · have hef : eff1 s = none := by unfold eff1; rw [hl]; simp [hs1, hnm, hkm, hdm, hdM]
      have HN := Lib.hid hef
      have hg1 : decide (9007199254740992 < d) = true := decide_eq_true hdM
      have hg2 : decide ((9007199254740992 : Int) < (d : Int)) = true := decide_eq_true (by omega)
      have H := Lib.hid (And.intro h (And.intro hs hl))
      have HY := Lib.hid hy0
      clear h hs hl hef hs1 hy0
      go_enter Tryz.func38, Tryz.ntmps38
      go_wp2_with fail
      refine hct.mono ?_
      clear hct
      rintro e w1 ⟨rfl, r1, o1⟩
      go_upto_region 2 with fail
      generalize hw2 : w1.alloc _ = w2
      have E2 : Es w g w1.heap.size s1 false 1 ⟨#[]⟩ y0 0 w2 := by
        rw [HY.out]
        have hb : Be w2 w1.heap.size 1 ⟨#[]⟩ vv0 0 := by
          rw [← hw2]
          refine (heap_alloc_new w1 _).trans (congrArg some ?_)
          rw [ix1]
          rfl
        have o2 : Only (fun _ => False) w1 w2 := by rw [← hw2]; exact Only.alloc (Only.refl _ _) _
        have hz := heap_alloc_new w (.cells #[.int .i64 0, .string ⟨#[]⟩, .int .i64 0, .string ⟨#[]⟩, .slice none 0 0, .slice none 0 0, .slice none 0 0, .int .i64 0] 44)
        have hgl := H.out.1.lt
        have hsz : (w.alloc (.cells #[.int .i64 0, .string ⟨#[]⟩, .int .i64 0, .string ⟨#[]⟩, .slice none 0 0, .slice none 0 0, .slice none 0 0, .int .i64 0] 44)).heap.size = w.heap.size + 1 := World.size_alloc ..
        refine ⟨((Only.alloc (Only.refl (fun k => k = g) w) _).trans o1 (fun q e => .inl e)).trans o2 (fun q e => e.elim), r1.only o2 id, hb, ?_, ?_, hgl⟩
        · exact Be.only (Be.only (S := fun k => k = g) hz o1 (by show ¬ w.heap.size = g; omega)) o2 id
        · have := o1.size; omega
      generalize w1.heap.size = eb at E2 ⊢
      have HE2 := Lib.hid E2
      clear hw2 r1 o1 E2
      obtain ⟨c0, c1⟩ := HE2.out.r.cells
      have f1 := HE2.out.r.free 1
      obtain ⟨x0, x1, x2, x3, x4, x5, x6, x7⟩ := HE2.out.e.cells
      have h0 := HE2.out.e.free 0
      have h1 := HE2.out.e.free 1
      have h2 := HE2.out.e.free 2
      have h3 := HE2.out.e.free 3
      have h4 := HE2.out.e.free 4
      have h5 := HE2.out.e.free 5
      have h6 := HE2.out.e.free 6
      have h7 := HE2.out.e.free 7
      have hnu := number_calls g s1 false _ HE2.out.r (by omega)
      rw [hnm] at hnu
      go_wp2_with fail
      refine hnu.mono ?_
      clear hnu
      rintro e w3 ⟨rfl, r, o⟩
      have HE3 := Lib.hid (HE2.out.turn r o)
      clear r o HE2
      clear c0 c1 f1 x0 x1 x2 x3 x4 x5 x6 x7 h0 h1 h2 h3 h4 h5 h6 h7
      obtain ⟨c0, c1⟩ := HE3.out.r.cells
      have f1 := HE3.out.r.free 1
      obtain ⟨x0, x1, x2, x3, x4, x5, x6, x7⟩ := HE3.out.e.cells
      have h0 := HE3.out.e.free 0
      have h1 := HE3.out.e.free 1
      have h2 := HE3.out.e.free 2
      have h3 := HE3.out.e.free 3
      have h4 := HE3.out.e.free 4
      have h5 := HE3.out.e.free 5
      have h6 := HE3.out.e.free 6
      have h7 := HE3.out.e.free 7
      have hcu := cut_calls g n s2 bd2 _ HE3.out.r (by omega) (by omega)
      rw [hkm] at hcu
      go_wp2_with fail
      refine hcu.mono ?_
      clear hcu
      rintro e w4 ⟨rfl, r, o⟩
      have HE4 := Lib.hid (HE3.out.turn r o)
      clear r o HE3
      clear c0 c1 f1 x0 x1 x2 x3 x4 x5 x6 x7 h0 h1 h2 h3 h4 h5 h6 h7
      obtain ⟨c0, c1⟩ := HE4.out.r.cells
      have f1 := HE4.out.r.free 1
      obtain ⟨x0, x1, x2, x3, x4, x5, x6, x7⟩ := HE4.out.e.cells
      have h0 := HE4.out.e.free 0
      have h1 := HE4.out.e.free 1
      have h2 := HE4.out.e.free 2
      have h3 := HE4.out.e.free 3
      have h4 := HE4.out.e.free 4
      have h5 := HE4.out.e.free 5
      have h6 := HE4.out.e.free 6
      have h7 := HE4.out.e.free 7
      go_upto_region 4 with fail
      generalize hW5 : w4.setCell ⟨eb, 1, none⟩ (.string key) = w5
      have HE5 := HE4.out.put1 key
      rw [hW5] at HE5
      have HE5 := Lib.hid HE5
      clear hW5 HE4
      clear c0 c1 f1 x0 x1 x2 x3 x4 x5 x6 x7 h0 h1 h2 h3 h4 h5 h6 h7
      obtain ⟨c0, c1⟩ := HE5.out.r.cells
      have f1 := HE5.out.r.free 1
      obtain ⟨x0, x1, x2, x3, x4, x5, x6, x7⟩ := HE5.out.e.cells
      have h0 := HE5.out.e.free 0
      have h1 := HE5.out.e.free 1
      have h2 := HE5.out.e.free 2
      have h3 := HE5.out.e.free 3
      have h4 := HE5.out.e.free 4
      have h5 := HE5.out.e.free 5
      have h6 := HE5.out.e.free 6
      have h7 := HE5.out.e.free 7
      have hnu := number_calls g s3 bd3 _ HE5.out.r (by omega)
      rw [hdm] at hnu
      go_wp2_with fail
      refine hnu.mono ?_
      clear hnu
      rintro e w6 ⟨rfl, r, o⟩
      have HE6 := Lib.hid (HE5.out.turn r o)
      clear r o HE5
      clear c0 c1 f1 x0 x1 x2 x3 x4 x5 x6 x7 h0 h1 h2 h3 h4 h5 h6 h7
      obtain ⟨c0, c1⟩ := HE6.out.r.cells
      have f1 := HE6.out.r.free 1
      obtain ⟨x0, x1, x2, x3, x4, x5, x6, x7⟩ := HE6.out.e.cells
      have h0 := HE6.out.e.free 0
      have h1 := HE6.out.e.free 1
      have h2 := HE6.out.e.free 2
      have h3 := HE6.out.e.free 3
      have h4 := HE6.out.e.free 4
      have h5 := HE6.out.e.free 5
      have h6 := HE6.out.e.free 6
      have h7 := HE6.out.e.free 7
      go_upto_region 7 with fail
      generalize hW7 : w6.setCell ⟨g, 1, none⟩ (.bool true) = w7
      have HE7 := HE6.out.putB true
      rw [hW7] at HE7
      have HE7 := Lib.hid HE7
      clear hW7 HE6
      clear c0 c1 f1 x0 x1 x2 x3 x4 x5 x6 x7 h0 h1 h2 h3 h4 h5 h6 h7
      obtain ⟨c0, c1⟩ := HE7.out.r.cells
      have f1 := HE7.out.r.free 1
      obtain ⟨x0, x1, x2, x3, x4, x5, x6, x7⟩ := HE7.out.e.cells
      have h0 := HE7.out.e.free 0
      have h1 := HE7.out.e.free 1
      have h2 := HE7.out.e.free 2
      have h3 := HE7.out.e.free 3
      have h4 := HE7.out.e.free 4
      have h5 := HE7.out.e.free 5
      have h6 := HE7.out.e.free 6
      have h7 := HE7.out.e.free 7
      go_upto_region 8 with fail
      generalize hW8 : w7.setCell ⟨eb, 7, none⟩ _ = w8
      obtain ⟨dd, HE8⟩ : ∃ dd, Es w g eb s4 true 1 key y0 dd w8 := ⟨_, by rw [← hW8]; exact HE7.out.put7 _⟩
      have HE8 := Lib.hid HE8
      clear hW8 HE7
      clear c0 c1 f1 x0 x1 x2 x3 x4 x5 x6 x7 h0 h1 h2 h3 h4 h5 h6 h7
      obtain ⟨c0, c1⟩ := HE8.out.r.cells
      have f1 := HE8.out.r.free 1
      obtain ⟨x0, x1, x2, x3, x4, x5, x6, x7⟩ := HE8.out.e.cells
      have h0 := HE8.out.e.free 0
      have h1 := HE8.out.e.free 1
      have h2 := HE8.out.e.free 2
      have h3 := HE8.out.e.free 3
      have h4 := HE8.out.e.free 4
      have h5 := HE8.out.e.free 5
      have h6 := HE8.out.e.free 6
      have h7 := HE8.out.e.free 7
      go_upto_region 14 with fail
      generalize hW90 : w8.setCell ⟨g, 1, none⟩ (.bool true) = w90
      have HE90 := HE8.out.putB true
      rw [hW90] at HE90
      have HE90 := Lib.hid HE90
      clear hW90 HE8
      clear c0 c1 f1 x0 x1 x2 x3 x4 x5 x6 x7 h0 h1 h2 h3 h4 h5 h6 h7
      obtain ⟨c0, c1⟩ := HE90.out.r.cells
      have f1 := HE90.out.r.free 1
      obtain ⟨x0, x1, x2, x3, x4, x5, x6, x7⟩ := HE90.out.e.cells
      have h0 := HE90.out.e.free 0
      have h1 := HE90.out.e.free 1
      have h2 := HE90.out.e.free 2
      have h3 := HE90.out.e.free 3
      have h4 := HE90.out.e.free 4
      have h5 := HE90.out.e.free 5
      have h6 := HE90.out.e.free 6
      have h7 := HE90.out.e.free 7
      have zf0 := HE90.out.z.free 0
      have zf1 := HE90.out.z.free 1
      have zf2 := HE90.out.z.free 2
      have zf3 := HE90.out.z.free 3
      have zf4 := HE90.out.z.free 4
      have zf5 := HE90.out.z.free 5
      have zf6 := HE90.out.z.free 6
      have zf7 := HE90.out.z.free 7
      obtain ⟨zc0, zc1, zc2, zc3, zc4, zc5, zc6, zc7⟩ := HE90.out.z.cells
      go_wp2_with fail
      have q := HE90.out.putR
      unfold putAll at q
      obtain ⟨wF, hF⟩ : ∃ wF, (((((((w90.setCell ⟨w.heap.size, 0, none⟩ (.int .i64 1)).setCell ⟨w.heap.size, 1, none⟩ (.string key)).setCell ⟨w.heap.size, 2, none⟩ (.int .i64 y0.kind)).setCell ⟨w.heap.size, 3, none⟩ (.string y0.text)).setCell ⟨w.heap.size, 4, none⟩ (.slice y0.LA y0.ln y0.lc)).setCell ⟨w.heap.size, 5, none⟩ (.slice y0.FA y0.fn y0.fc)).setCell ⟨w.heap.size, 6, none⟩ (.slice y0.KA y0.kn y0.kc)).setCell ⟨w.heap.size, 7, none⟩ (.int .i64 dd) = wF := ⟨_, rfl⟩
      rw [hF] at q ⊢
      clear hF
      obtain ⟨qo, qr, qe⟩ := q
      obtain ⟨t0, t1, t2, t3, t4, t5, t6, t7⟩ := qe.cells
      refine bodyPost_ret (v := evV ⟨1, key, y0, dd⟩) (by simp [results, Tryz.f38, evV, go_sem, t0, t1, t2, t3, t4, t5, t6, t7]) rfl ?_
      exact ⟨_, rfl, qo, fun _ => ⟨_, qr⟩, fun p rest h => (by rw [HN.out] at h; cases h)⟩
    · cases hok : (decD s4).ok with
      | false =>
        have hef : eff1 s = none := by unfold eff1; rw [hl]; simp [hs1, hnm, hkm, hdm, hdM, hok]
        have HN := Lib.hid hef
        have hg1 : decide (9007199254740992 < d) = false := decide_eq_false hdM
        have hg2 : decide ((9007199254740992 : Int) < (d : Int)) = false := decide_eq_false (by omega)
        have hg3 : ((d : Nat) : Int) ≤ 9007199254740992 := by omega
        have H := Lib.hid (And.intro h (And.intro hs hl))
        have HY := Lib.hid hy0
        clear h hs hl hef hs1 hy0
        go_enter Tryz.func38, Tryz.ntmps38
        go_wp2_with fail
        refine hct.mono ?_
        clear hct
        rintro e w1 ⟨rfl, r1, o1⟩
        go_upto_region 2 with fail
        generalize hw2 : w1.alloc _ = w2
        have E2 : Es w g w1.heap.size s1 false 1 ⟨#[]⟩ y0 0 w2 := by
          rw [HY.out]
          have hb : Be w2 w1.heap.size 1 ⟨#[]⟩ vv0 0 := by
            rw [← hw2]
            refine (heap_alloc_new w1 _).trans (congrArg some ?_)
            rw [ix1]
            rfl
          have o2 : Only (fun _ => False) w1 w2 := by rw [← hw2]; exact Only.alloc (Only.refl _ _) _
          have hz := heap_alloc_new w (.cells #[.int .i64 0, .string ⟨#[]⟩, .int .i64 0, .string ⟨#[]⟩, .slice none 0 0, .slice none 0 0, .slice none 0 0, .int .i64 0] 44)
          have hgl := H.out.1.lt
          have hsz : (w.alloc (.cells #[.int .i64 0, .string ⟨#[]⟩, .int .i64 0, .string ⟨#[]⟩, .slice none 0 0, .slice none 0 0, .slice none 0 0, .int .i64 0] 44)).heap.size = w.heap.size + 1 := World.size_alloc ..
          refine ⟨((Only.alloc (Only.refl (fun k => k = g) w) _).trans o1 (fun q e => .inl e)).trans o2 (fun q e => e.elim), r1.only o2 id, hb, ?_, ?_, hgl⟩
          · exact Be.only (Be.only (S := fun k => k = g) hz o1 (by show ¬ w.heap.size = g; omega)) o2 id
          · have := o1.size; omega
        generalize w1.heap.size = eb at E2 ⊢
        have HE2 := Lib.hid E2
        clear hw2 r1 o1 E2
        obtain ⟨c0, c1⟩ := HE2.out.r.cells
        have f1 := HE2.out.r.free 1
        obtain ⟨x0, x1, x2, x3, x4, x5, x6, x7⟩ := HE2.out.e.cells
        have h0 := HE2.out.e.free 0
        have h1 := HE2.out.e.free 1
        have h2 := HE2.out.e.free 2
        have h3 := HE2.out.e.free 3
        have h4 := HE2.out.e.free 4
        have h5 := HE2.out.e.free 5
        have h6 := HE2.out.e.free 6
        have h7 := HE2.out.e.free 7
        have hnu := number_calls g s1 false _ HE2.out.r (by omega)
        rw [hnm] at hnu
        go_wp2_with fail
        refine hnu.mono ?_
        clear hnu
        rintro e w3 ⟨rfl, r, o⟩
        have HE3 := Lib.hid (HE2.out.turn r o)
        clear r o HE2
        clear c0 c1 f1 x0 x1 x2 x3 x4 x5 x6 x7 h0 h1 h2 h3 h4 h5 h6 h7
        obtain ⟨c0, c1⟩ := HE3.out.r.cells
        have f1 := HE3.out.r.free 1
        obtain ⟨x0, x1, x2, x3, x4, x5, x6, x7⟩ := HE3.out.e.cells
        have h0 := HE3.out.e.free 0
        have h1 := HE3.out.e.free 1
        have h2 := HE3.out.e.free 2
        have h3 := HE3.out.e.free 3
        have h4 := HE3.out.e.free 4
        have h5 := HE3.out.e.free 5
        have h6 := HE3.out.e.free 6
        have h7 := HE3.out.e.free 7
        have hcu := cut_calls g n s2 bd2 _ HE3.out.r (by omega) (by omega)
        rw [hkm] at hcu
        go_wp2_with fail
        refine hcu.mono ?_
        clear hcu
        rintro e w4 ⟨rfl, r, o⟩
        have HE4 := Lib.hid (HE3.out.turn r o)
        clear r o HE3
        clear c0 c1 f1 x0 x1 x2 x3 x4 x5 x6 x7 h0 h1 h2 h3 h4 h5 h6 h7
        obtain ⟨c0, c1⟩ := HE4.out.r.cells
        have f1 := HE4.out.r.free 1
        obtain ⟨x0, x1, x2, x3, x4, x5, x6, x7⟩ := HE4.out.e.cells
        have h0 := HE4.out.e.free 0
        have h1 := HE4.out.e.free 1
        have h2 := HE4.out.e.free 2
        have h3 := HE4.out.e.free 3
        have h4 := HE4.out.e.free 4
        have h5 := HE4.out.e.free 5
        have h6 := HE4.out.e.free 6
        have h7 := HE4.out.e.free 7
        go_upto_region 4 with fail
        generalize hW5 : w4.setCell ⟨eb, 1, none⟩ (.string key) = w5
        have HE5 := HE4.out.put1 key
        rw [hW5] at HE5
        have HE5 := Lib.hid HE5
        clear hW5 HE4
        clear c0 c1 f1 x0 x1 x2 x3 x4 x5 x6 x7 h0 h1 h2 h3 h4 h5 h6 h7
        obtain ⟨c0, c1⟩ := HE5.out.r.cells
        have f1 := HE5.out.r.free 1
        obtain ⟨x0, x1, x2, x3, x4, x5, x6, x7⟩ := HE5.out.e.cells
        have h0 := HE5.out.e.free 0
        have h1 := HE5.out.e.free 1
        have h2 := HE5.out.e.free 2
        have h3 := HE5.out.e.free 3
        have h4 := HE5.out.e.free 4
        have h5 := HE5.out.e.free 5
        have h6 := HE5.out.e.free 6
        have h7 := HE5.out.e.free 7
        have hnu := number_calls g s3 bd3 _ HE5.out.r (by omega)
        rw [hdm] at hnu
        go_wp2_with fail
        refine hnu.mono ?_
        clear hnu
        rintro e w6 ⟨rfl, r, o⟩
        have HE6 := Lib.hid (HE5.out.turn r o)
        clear r o HE5
        clear c0 c1 f1 x0 x1 x2 x3 x4 x5 x6 x7 h0 h1 h2 h3 h4 h5 h6 h7
        obtain ⟨c0, c1⟩ := HE6.out.r.cells
        have f1 := HE6.out.r.free 1
        obtain ⟨x0, x1, x2, x3, x4, x5, x6, x7⟩ := HE6.out.e.cells
        have h0 := HE6.out.e.free 0
        have h1 := HE6.out.e.free 1
        have h2 := HE6.out.e.free 2
        have h3 := HE6.out.e.free 3
        have h4 := HE6.out.e.free 4
        have h5 := HE6.out.e.free 5
        have h6 := HE6.out.e.free 6
        have h7 := HE6.out.e.free 7
        go_upto_region 7 with fail
        generalize hW7 : w6.setCell ⟨g, 1, none⟩ (.bool false) = w7
        have HE7 := HE6.out.putB false
        rw [hW7] at HE7
        have HE7 := Lib.hid HE7
        clear hW7 HE6
        clear c0 c1 f1 x0 x1 x2 x3 x4 x5 x6 x7 h0 h1 h2 h3 h4 h5 h6 h7
        obtain ⟨c0, c1⟩ := HE7.out.r.cells
        have f1 := HE7.out.r.free 1
        obtain ⟨x0, x1, x2, x3, x4, x5, x6, x7⟩ := HE7.out.e.cells
        have h0 := HE7.out.e.free 0
        have h1 := HE7.out.e.free 1
        have h2 := HE7.out.e.free 2
        have h3 := HE7.out.e.free 3
        have h4 := HE7.out.e.free 4
        have h5 := HE7.out.e.free 5
        have h6 := HE7.out.e.free 6
        have h7 := HE7.out.e.free 7
        go_upto_region 8 with fail
        generalize hW8 : w7.setCell ⟨eb, 7, none⟩ (.int .i64 (d : Int)) = w8
        have HE8 := HE7.out.put7 (d : Int)
        rw [hW8] at HE8
        have HE8 := Lib.hid HE8
        clear hW8 HE7
        clear c0 c1 f1 x0 x1 x2 x3 x4 x5 x6 x7 h0 h1 h2 h3 h4 h5 h6 h7
        obtain ⟨c0, c1⟩ := HE8.out.r.cells
        have f1 := HE8.out.r.free 1
        obtain ⟨x0, x1, x2, x3, x4, x5, x6, x7⟩ := HE8.out.e.cells
        have h0 := HE8.out.e.free 0
        have h1 := HE8.out.e.free 1
        have h2 := HE8.out.e.free 2
        have h3 := HE8.out.e.free 3
        have h4 := HE8.out.e.free 4
        have h5 := HE8.out.e.free 5
        have h6 := HE8.out.e.free 6
        have h7 := HE8.out.e.free 7
        have hdc := VcL.dec_calls s4 w8 (by omega)
        unfold DecPost at hdc
        rw [hok] at hdc
        simp only [if_true, Bool.false_eq_true, if_false] at hdc
        go_wp2_with fail
        refine hdc.mono ?_
        clear hdc
        rintro e w9 ⟨y, rfl, hyp, rdy, nwy, b9⟩
        have HE9 := Lib.hid (HE8.out.below b9)
        have HYY := Lib.hid (And.intro hyp (And.intro rdy nwy.1))
        have HZ9 := Lib.hid (And.intro HE8.out.e.lt b9.size)
        clear hyp rdy nwy b9
        unfold VV.val
        go_upto_region 10 with fail
        generalize hWA : w9.alloc _ = wA
        have oA : Below w9.heap.size w9 wA := by rw [← hWA]; exact (Below.refl _ _).alloc (Nat.le_refl _) _
        have bv : VaT.Bv wA w9.heap.size y.kind y.text (.slice y.LA y.ln y.lc) (.slice y.FA y.fn y.fc) (.slice y.KA y.kn y.kc) := by rw [← hWA]; exact heap_alloc_new w9 _
        have HE10 : Ey w g eb s4 false 1 key y0 (d : Int) w9 w8.heap.size wA := ⟨HE9.out.below oA, SpU.only_b oA, HZ9.out.1⟩
        have hvg : w9.heap.size ≠ g := by have h1 := HZ9.out.1; have h2 := HZ9.out.2; have h3 := HE9.out.le; have h4 := HE9.out.gl; omega
        have hve : w9.heap.size ≠ eb := by have h1 := HZ9.out.1; have h2 := HZ9.out.2; omega
        obtain ⟨vb, hvb⟩ : ∃ vb, w9.heap.size = vb := ⟨_, rfl⟩
        rw [hvb] at bv hvg hve ⊢
        have HE10 := Lib.hid HE10
        have HBV := Lib.hid bv
        clear hWA oA bv hvb
        clear c0 c1 f1 x0 x1 x2 x3 x4 x5 x6 x7 h0 h1 h2 h3 h4 h5 h6 h7
        obtain ⟨c0, c1⟩ := HE10.out.es.r.cells
        have f1 := HE10.out.es.r.free 1
        obtain ⟨x0, x1, x2, x3, x4, x5, x6, x7⟩ := HE10.out.es.e.cells
        have h0 := HE10.out.es.e.free 0
        have h1 := HE10.out.es.e.free 1
        have h2 := HE10.out.es.e.free 2
        have h3 := HE10.out.es.e.free 3
        have h4 := HE10.out.es.e.free 4
        have h5 := HE10.out.es.e.free 5
        have h6 := HE10.out.es.e.free 6
        have h7 := HE10.out.es.e.free 7
        go_upto_region 11 with fail
        have bv := Bv.only HBV.out (put_g (g := g) wA 1 (.bool true)) hvg
        generalize hWB : wA.setCell ⟨g, 1, none⟩ (.bool true) = wB at bv ⊢
        have HE11 := HE10.out.putB true
        rw [hWB] at HE11
        have HE11 := Lib.hid HE11
        have HBV := Lib.hid bv
        clear hWB HE10 bv
        clear c0 c1 f1 x0 x1 x2 x3 x4 x5 x6 x7 h0 h1 h2 h3 h4 h5 h6 h7
        obtain ⟨c0, c1⟩ := HE11.out.es.r.cells
        have f1 := HE11.out.es.r.free 1
        obtain ⟨x0, x1, x2, x3, x4, x5, x6, x7⟩ := HE11.out.es.e.cells
        have h0 := HE11.out.es.e.free 0
        have h1 := HE11.out.es.e.free 1
        have h2 := HE11.out.es.e.free 2
        have h3 := HE11.out.es.e.free 3
        have h4 := HE11.out.es.e.free 4
        have h5 := HE11.out.es.e.free 5
        have h6 := HE11.out.es.e.free 6
        have h7 := HE11.out.es.e.free 7
        have hcu := cut_calls g 0 s4 true _ HE11.out.es.r (by omega) (by omega)
        rw [show cutP s4 true 0 = (⟨#[]⟩, s4, true) from by unfold cutP; rw [if_pos (.inl rfl)]] at hcu
        go_wp2_with fail
        refine hcu.mono ?_
        clear hcu
        rintro e wC ⟨rfl, r, o⟩
        have HE12 := Lib.hid (HE11.out.turn r o)
        have bv := Bv.only HBV.out o hvg
        have HBV := Lib.hid bv
        clear r o HE11
        clear c0 c1 f1 x0 x1 x2 x3 x4 x5 x6 x7 h0 h1 h2 h3 h4 h5 h6 h7
        obtain ⟨c0, c1⟩ := HE12.out.es.r.cells
        have f1 := HE12.out.es.r.free 1
        obtain ⟨x0, x1, x2, x3, x4, x5, x6, x7⟩ := HE12.out.es.e.cells
        have h0 := HE12.out.es.e.free 0
        have h1 := HE12.out.es.e.free 1
        have h2 := HE12.out.es.e.free 2
        have h3 := HE12.out.es.e.free 3
        have h4 := HE12.out.es.e.free 4
        have h5 := HE12.out.es.e.free 5
        have h6 := HE12.out.es.e.free 6
        have h7 := HE12.out.es.e.free 7
        obtain ⟨b0, b1, b2, b3, b4⟩ := bv.cells
        go_upto_region 13 with fail
        have HE13 := HE12.out.putV y
        unfold putVv at HE13
        generalize hWD : ((((wC.setCell ⟨eb, 2, none⟩ (.int .i64 y.kind)).setCell ⟨eb, 3, none⟩ (.string y.text)).setCell ⟨eb, 4, none⟩ (.slice y.LA y.ln y.lc)).setCell ⟨eb, 5, none⟩ (.slice y.FA y.fn y.fc)).setCell ⟨eb, 6, none⟩ (.slice y.KA y.kn y.kc) = w13 at HE13 ⊢
        have HEY := Lib.hid HE13
        have HE13 := Lib.hid HE13.es
        clear hWD HE12 b0 b1 b2 b3 b4 bv HBV
        clear c0 c1 f1 x0 x1 x2 x3 x4 x5 x6 x7 h0 h1 h2 h3 h4 h5 h6 h7
        obtain ⟨c0, c1⟩ := HE13.out.r.cells
        have f1 := HE13.out.r.free 1
        obtain ⟨x0, x1, x2, x3, x4, x5, x6, x7⟩ := HE13.out.e.cells
        have h0 := HE13.out.e.free 0
        have h1 := HE13.out.e.free 1
        have h2 := HE13.out.e.free 2
        have h3 := HE13.out.e.free 3
        have h4 := HE13.out.e.free 4
        have h5 := HE13.out.e.free 5
        have h6 := HE13.out.e.free 6
        have h7 := HE13.out.e.free 7
        go_upto_region 14 with fail
        generalize hW90 : w13.setCell ⟨g, 1, none⟩ (.bool true) = w90
        have HE90 := HE13.out.putB true
        rw [hW90] at HE90
        have HE90 := Lib.hid HE90
        clear hW90 HE13
        clear c0 c1 f1 x0 x1 x2 x3 x4 x5 x6 x7 h0 h1 h2 h3 h4 h5 h6 h7
        obtain ⟨c0, c1⟩ := HE90.out.r.cells
        have f1 := HE90.out.r.free 1
        obtain ⟨x0, x1, x2, x3, x4, x5, x6, x7⟩ := HE90.out.e.cells
        have h0 := HE90.out.e.free 0
        have h1 := HE90.out.e.free 1
        have h2 := HE90.out.e.free 2
        have h3 := HE90.out.e.free 3
        have h4 := HE90.out.e.free 4
        have h5 := HE90.out.e.free 5
        have h6 := HE90.out.e.free 6
        have h7 := HE90.out.e.free 7
        have zf0 := HE90.out.z.free 0
        have zf1 := HE90.out.z.free 1
        have zf2 := HE90.out.z.free 2
        have zf3 := HE90.out.z.free 3
        have zf4 := HE90.out.z.free 4
        have zf5 := HE90.out.z.free 5
        have zf6 := HE90.out.z.free 6
        have zf7 := HE90.out.z.free 7
        obtain ⟨zc0, zc1, zc2, zc3, zc4, zc5, zc6, zc7⟩ := HE90.out.z.cells
        go_wp2_with fail
        have q := HE90.out.putR
        unfold putAll at q
        obtain ⟨wF, hF⟩ : ∃ wF, (((((((w90.setCell ⟨w.heap.size, 0, none⟩ (.int .i64 1)).setCell ⟨w.heap.size, 1, none⟩ (.string key)).setCell ⟨w.heap.size, 2, none⟩ (.int .i64 y.kind)).setCell ⟨w.heap.size, 3, none⟩ (.string y.text)).setCell ⟨w.heap.size, 4, none⟩ (.slice y.LA y.ln y.lc)).setCell ⟨w.heap.size, 5, none⟩ (.slice y.FA y.fn y.fc)).setCell ⟨w.heap.size, 6, none⟩ (.slice y.KA y.kn y.kc)).setCell ⟨w.heap.size, 7, none⟩ (.int .i64 (d : Int)) = wF := ⟨_, rfl⟩
        rw [hF] at q ⊢
        clear hF
        obtain ⟨qo, qr, qe⟩ := q
        obtain ⟨t0, t1, t2, t3, t4, t5, t6, t7⟩ := qe.cells
        refine bodyPost_ret (v := evV ⟨1, key, y, (d : Int)⟩) (by simp [results, Tryz.f38, evV, go_sem, t0, t1, t2, t3, t4, t5, t6, t7]) rfl ?_
        exact ⟨_, rfl, qo, fun _ => ⟨_, qr⟩, fun p rest h => (by rw [HN.out] at h; cases h)⟩
      | true =>
        have hef : eff1 s = some (⟨1, key, pvOf (decD s4).v, (d : Nat)⟩, s4.extract (decD s4).st.k s4.size) := by unfold eff1; rw [hl]; simp [hs1, hnm, hkm, hdm, hdM, hok]
        have HN := Lib.hid hef
        have hkB := (VcR.dec_is hok).2.1
        have hk5 : cutP s4 false (decD s4).st.k = (s4.extract 0 (decD s4).st.k, s4.extract (decD s4).st.k s4.size, false) := by unfold cutP; rw [if_neg (fun h1 => h1.elim (fun e => by cases e) (fun e => by omega))]
        have hk6 : (((decD s4).st.k : Nat) : Int) ≤ 100000000 := by omega
        have HOK := Lib.hid hok
        have hg1 : decide (9007199254740992 < d) = false := decide_eq_false hdM
        have hg2 : decide ((9007199254740992 : Int) < (d : Int)) = false := decide_eq_false (by omega)
        have hg3 : ((d : Nat) : Int) ≤ 9007199254740992 := by omega
        have H := Lib.hid (And.intro h (And.intro hs hl))
        have HY := Lib.hid hy0
        clear h hs hl hef hs1 hy0
        go_enter Tryz.func38, Tryz.ntmps38
        go_wp2_with fail
        refine hct.mono ?_
        clear hct
        rintro e w1 ⟨rfl, r1, o1⟩
        go_upto_region 2 with fail
        generalize hw2 : w1.alloc _ = w2
        have E2 : Es w g w1.heap.size s1 false 1 ⟨#[]⟩ y0 0 w2 := by
          rw [HY.out]
          have hb : Be w2 w1.heap.size 1 ⟨#[]⟩ vv0 0 := by
            rw [← hw2]
            refine (heap_alloc_new w1 _).trans (congrArg some ?_)
            rw [ix1]
            rfl
          have o2 : Only (fun _ => False) w1 w2 := by rw [← hw2]; exact Only.alloc (Only.refl _ _) _
          have hz := heap_alloc_new w (.cells #[.int .i64 0, .string ⟨#[]⟩, .int .i64 0, .string ⟨#[]⟩, .slice none 0 0, .slice none 0 0, .slice none 0 0, .int .i64 0] 44)
          have hgl := H.out.1.lt
          have hsz : (w.alloc (.cells #[.int .i64 0, .string ⟨#[]⟩, .int .i64 0, .string ⟨#[]⟩, .slice none 0 0, .slice none 0 0, .slice none 0 0, .int .i64 0] 44)).heap.size = w.heap.size + 1 := World.size_alloc ..
          refine ⟨((Only.alloc (Only.refl (fun k => k = g) w) _).trans o1 (fun q e => .inl e)).trans o2 (fun q e => e.elim), r1.only o2 id, hb, ?_, ?_, hgl⟩
          · exact Be.only (Be.only (S := fun k => k = g) hz o1 (by show ¬ w.heap.size = g; omega)) o2 id
          · have := o1.size; omega
        generalize w1.heap.size = eb at E2 ⊢
        have HE2 := Lib.hid E2
        clear hw2 r1 o1 E2
        obtain ⟨c0, c1⟩ := HE2.out.r.cells
        have f1 := HE2.out.r.free 1
        obtain ⟨x0, x1, x2, x3, x4, x5, x6, x7⟩ := HE2.out.e.cells
        have h0 := HE2.out.e.free 0
        have h1 := HE2.out.e.free 1
        have h2 := HE2.out.e.free 2
        have h3 := HE2.out.e.free 3
        have h4 := HE2.out.e.free 4
        have h5 := HE2.out.e.free 5
        have h6 := HE2.out.e.free 6
        have h7 := HE2.out.e.free 7
        have hnu := number_calls g s1 false _ HE2.out.r (by omega)
        rw [hnm] at hnu
        go_wp2_with fail
        refine hnu.mono ?_
        clear hnu
        rintro e w3 ⟨rfl, r, o⟩
        have HE3 := Lib.hid (HE2.out.turn r o)
        clear r o HE2
        clear c0 c1 f1 x0 x1 x2 x3 x4 x5 x6 x7 h0 h1 h2 h3 h4 h5 h6 h7
        obtain ⟨c0, c1⟩ := HE3.out.r.cells
        have f1 := HE3.out.r.free 1
        obtain ⟨x0, x1, x2, x3, x4, x5, x6, x7⟩ := HE3.out.e.cells
        have h0 := HE3.out.e.free 0
        have h1 := HE3.out.e.free 1
        have h2 := HE3.out.e.free 2
        have h3 := HE3.out.e.free 3
        have h4 := HE3.out.e.free 4
        have h5 := HE3.out.e.free 5
        have h6 := HE3.out.e.free 6
        have h7 := HE3.out.e.free 7
        have hcu := cut_calls g n s2 bd2 _ HE3.out.r (by omega) (by omega)
        rw [hkm] at hcu
        go_wp2_with fail
        refine hcu.mono ?_
        clear hcu
        rintro e w4 ⟨rfl, r, o⟩
        have HE4 := Lib.hid (HE3.out.turn r o)
        clear r o HE3
        clear c0 c1 f1 x0 x1 x2 x3 x4 x5 x6 x7 h0 h1 h2 h3 h4 h5 h6 h7
        obtain ⟨c0, c1⟩ := HE4.out.r.cells
        have f1 := HE4.out.r.free 1
        obtain ⟨x0, x1, x2, x3, x4, x5, x6, x7⟩ := HE4.out.e.cells
        have h0 := HE4.out.e.free 0
        have h1 := HE4.out.e.free 1
        have h2 := HE4.out.e.free 2
        have h3 := HE4.out.e.free 3
        have h4 := HE4.out.e.free 4
        have h5 := HE4.out.e.free 5
        have h6 := HE4.out.e.free 6
        have h7 := HE4.out.e.free 7
        go_upto_region 4 with fail
        generalize hW5 : w4.setCell ⟨eb, 1, none⟩ (.string key) = w5
        have HE5 := HE4.out.put1 key
        rw [hW5] at HE5
        have HE5 := Lib.hid HE5
        clear hW5 HE4
        clear c0 c1 f1 x0 x1 x2 x3 x4 x5 x6 x7 h0 h1 h2 h3 h4 h5 h6 h7
        obtain ⟨c0, c1⟩ := HE5.out.r.cells
        have f1 := HE5.out.r.free 1
        obtain ⟨x0, x1, x2, x3, x4, x5, x6, x7⟩ := HE5.out.e.cells
        have h0 := HE5.out.e.free 0
        have h1 := HE5.out.e.free 1
        have h2 := HE5.out.e.free 2
        have h3 := HE5.out.e.free 3
        have h4 := HE5.out.e.free 4
        have h5 := HE5.out.e.free 5
        have h6 := HE5.out.e.free 6
        have h7 := HE5.out.e.free 7
        have hnu := number_calls g s3 bd3 _ HE5.out.r (by omega)
        rw [hdm] at hnu
        go_wp2_with fail
        refine hnu.mono ?_
        clear hnu
        rintro e w6 ⟨rfl, r, o⟩
        have HE6 := Lib.hid (HE5.out.turn r o)
        clear r o HE5
        clear c0 c1 f1 x0 x1 x2 x3 x4 x5 x6 x7 h0 h1 h2 h3 h4 h5 h6 h7
        obtain ⟨c0, c1⟩ := HE6.out.r.cells
        have f1 := HE6.out.r.free 1
        obtain ⟨x0, x1, x2, x3, x4, x5, x6, x7⟩ := HE6.out.e.cells
        have h0 := HE6.out.e.free 0
        have h1 := HE6.out.e.free 1
        have h2 := HE6.out.e.free 2
        have h3 := HE6.out.e.free 3
        have h4 := HE6.out.e.free 4
        have h5 := HE6.out.e.free 5
        have h6 := HE6.out.e.free 6
        have h7 := HE6.out.e.free 7
        go_upto_region 7 with fail
        generalize hW7 : w6.setCell ⟨g, 1, none⟩ (.bool false) = w7
        have HE7 := HE6.out.putB false
        rw [hW7] at HE7
        have HE7 := Lib.hid HE7
        clear hW7 HE6
        clear c0 c1 f1 x0 x1 x2 x3 x4 x5 x6 x7 h0 h1 h2 h3 h4 h5 h6 h7
        obtain ⟨c0, c1⟩ := HE7.out.r.cells
        have f1 := HE7.out.r.free 1
        obtain ⟨x0, x1, x2, x3, x4, x5, x6, x7⟩ := HE7.out.e.cells
        have h0 := HE7.out.e.free 0
        have h1 := HE7.out.e.free 1
        have h2 := HE7.out.e.free 2
        have h3 := HE7.out.e.free 3
        have h4 := HE7.out.e.free 4
        have h5 := HE7.out.e.free 5
        have h6 := HE7.out.e.free 6
        have h7 := HE7.out.e.free 7
        go_upto_region 8 with fail
        generalize hW8 : w7.setCell ⟨eb, 7, none⟩ (.int .i64 (d : Int)) = w8
        have HE8 := HE7.out.put7 (d : Int)
        rw [hW8] at HE8
        have HE8 := Lib.hid HE8
        clear hW8 HE7
        clear c0 c1 f1 x0 x1 x2 x3 x4 x5 x6 x7 h0 h1 h2 h3 h4 h5 h6 h7
        have HW8 := Lib.hid (show w.heap.size ≤ w8.heap.size from HE8.out.o.size)
        obtain ⟨c0, c1⟩ := HE8.out.r.cells
        have f1 := HE8.out.r.free 1
        obtain ⟨x0, x1, x2, x3, x4, x5, x6, x7⟩ := HE8.out.e.cells
        have h0 := HE8.out.e.free 0
        have h1 := HE8.out.e.free 1
        have h2 := HE8.out.e.free 2
        have h3 := HE8.out.e.free 3
        have h4 := HE8.out.e.free 4
        have h5 := HE8.out.e.free 5
        have h6 := HE8.out.e.free 6
        have h7 := HE8.out.e.free 7
        have hdc := VcL.dec_calls s4 w8 (by omega)
        unfold DecPost at hdc
        rw [hok] at hdc
        simp only [if_true, Bool.false_eq_true, if_false] at hdc
        go_wp2_with fail
        refine hdc.mono ?_
        clear hdc
        rintro e w9 ⟨y, rfl, hyp, rdy, nwy, b9⟩
        have HE9 := Lib.hid (HE8.out.below b9)
        have HYY := Lib.hid (And.intro hyp (And.intro rdy nwy.1))
        have HZ9 := Lib.hid (And.intro HE8.out.e.lt b9.size)
        clear hyp rdy nwy b9
        unfold VV.val
        go_upto_region 10 with fail
        generalize hWA : w9.alloc _ = wA
        have oA : Below w9.heap.size w9 wA := by rw [← hWA]; exact (Below.refl _ _).alloc (Nat.le_refl _) _
        have bv : VaT.Bv wA w9.heap.size y.kind y.text (.slice y.LA y.ln y.lc) (.slice y.FA y.fn y.fc) (.slice y.KA y.kn y.kc) := by rw [← hWA]; exact heap_alloc_new w9 _
        have HE10 : Ey w g eb s4 false 1 key y0 (d : Int) w9 w8.heap.size wA := ⟨HE9.out.below oA, SpU.only_b oA, HZ9.out.1⟩
        have hvg : w9.heap.size ≠ g := by have h1 := HZ9.out.1; have h2 := HZ9.out.2; have h3 := HE9.out.le; have h4 := HE9.out.gl; omega
        have hve : w9.heap.size ≠ eb := by have h1 := HZ9.out.1; have h2 := HZ9.out.2; omega
        obtain ⟨vb, hvb⟩ : ∃ vb, w9.heap.size = vb := ⟨_, rfl⟩
        rw [hvb] at bv hvg hve ⊢
        have HE10 := Lib.hid HE10
        have HBV := Lib.hid bv
        clear hWA oA bv hvb
        clear c0 c1 f1 x0 x1 x2 x3 x4 x5 x6 x7 h0 h1 h2 h3 h4 h5 h6 h7
        obtain ⟨c0, c1⟩ := HE10.out.es.r.cells
        have f1 := HE10.out.es.r.free 1
        obtain ⟨x0, x1, x2, x3, x4, x5, x6, x7⟩ := HE10.out.es.e.cells
        have h0 := HE10.out.es.e.free 0
        have h1 := HE10.out.es.e.free 1
        have h2 := HE10.out.es.e.free 2
        have h3 := HE10.out.es.e.free 3
        have h4 := HE10.out.es.e.free 4
        have h5 := HE10.out.es.e.free 5
        have h6 := HE10.out.es.e.free 6
        have h7 := HE10.out.es.e.free 7
        go_upto_region 11 with fail
        have bv := Bv.only HBV.out (put_g (g := g) wA 1 (.bool false)) hvg
        generalize hWB : wA.setCell ⟨g, 1, none⟩ (.bool false) = wB at bv ⊢
        have HE11 := HE10.out.putB false
        rw [hWB] at HE11
        have HE11 := Lib.hid HE11
        have HBV := Lib.hid bv
        clear hWB HE10 bv
        clear c0 c1 f1 x0 x1 x2 x3 x4 x5 x6 x7 h0 h1 h2 h3 h4 h5 h6 h7
        obtain ⟨c0, c1⟩ := HE11.out.es.r.cells
        have f1 := HE11.out.es.r.free 1
        obtain ⟨x0, x1, x2, x3, x4, x5, x6, x7⟩ := HE11.out.es.e.cells
        have h0 := HE11.out.es.e.free 0
        have h1 := HE11.out.es.e.free 1
        have h2 := HE11.out.es.e.free 2
        have h3 := HE11.out.es.e.free 3
        have h4 := HE11.out.es.e.free 4
        have h5 := HE11.out.es.e.free 5
        have h6 := HE11.out.es.e.free 6
        have h7 := HE11.out.es.e.free 7
        have hcu := cut_calls g (decD s4).st.k s4 false _ HE11.out.es.r (by omega) (by omega)
        rw [hk5] at hcu
        generalize hkk : (decD s4).st.k = kk at hcu hkB ⊢
        have HKK := Lib.hid hkk
        clear hkk
        go_wp2_with fail
        refine hcu.mono ?_
        clear hcu
        rintro e wC ⟨rfl, r, o⟩
        have HE12 := Lib.hid (HE11.out.turn r o)
        have bv := Bv.only HBV.out o hvg
        have HBV := Lib.hid bv
        clear r o HE11
        clear c0 c1 f1 x0 x1 x2 x3 x4 x5 x6 x7 h0 h1 h2 h3 h4 h5 h6 h7
        obtain ⟨c0, c1⟩ := HE12.out.es.r.cells
        have f1 := HE12.out.es.r.free 1
        obtain ⟨x0, x1, x2, x3, x4, x5, x6, x7⟩ := HE12.out.es.e.cells
        have h0 := HE12.out.es.e.free 0
        have h1 := HE12.out.es.e.free 1
        have h2 := HE12.out.es.e.free 2
        have h3 := HE12.out.es.e.free 3
        have h4 := HE12.out.es.e.free 4
        have h5 := HE12.out.es.e.free 5
        have h6 := HE12.out.es.e.free 6
        have h7 := HE12.out.es.e.free 7
        obtain ⟨b0, b1, b2, b3, b4⟩ := bv.cells
        go_upto_region 13 with fail
        have HE13 := HE12.out.putV y
        unfold putVv at HE13
        generalize hWD : ((((wC.setCell ⟨eb, 2, none⟩ (.int .i64 y.kind)).setCell ⟨eb, 3, none⟩ (.string y.text)).setCell ⟨eb, 4, none⟩ (.slice y.LA y.ln y.lc)).setCell ⟨eb, 5, none⟩ (.slice y.FA y.fn y.fc)).setCell ⟨eb, 6, none⟩ (.slice y.KA y.kn y.kc) = w13 at HE13 ⊢
        have HEY := Lib.hid HE13
        have HE13 := Lib.hid HE13.es
        clear hWD HE12 b0 b1 b2 b3 b4 bv HBV
        clear c0 c1 f1 x0 x1 x2 x3 x4 x5 x6 x7 h0 h1 h2 h3 h4 h5 h6 h7
        have hpv : pvOf y = pvOf (decD s4).v := by obtain ⟨a, b, c, d, e⟩ := HYY.out.1; unfold pvOf; rw [a, b, c, d, e]; rfl
        obtain ⟨smy, chy, -⟩ := dec_sm (w := w9) (by omega) HOK.out HYY.out.2.1 hpv
        have HMAY := Lib.hid (show mayP (peOf ⟨1, key, y, (d : Int)⟩) = true by unfold mayP peOf; dsimp only; rw [if_pos rfl, (tick_iff _).2 (by omega), chy]; rfl)
        have HSM := Lib.hid (And.intro smy hpv)
        clear smy chy hpv
        obtain ⟨c0, c1⟩ := HE13.out.r.cells
        have f1 := HE13.out.r.free 1
        obtain ⟨x0, x1, x2, x3, x4, x5, x6, x7⟩ := HE13.out.e.cells
        have h0 := HE13.out.e.free 0
        have h1 := HE13.out.e.free 1
        have h2 := HE13.out.e.free 2
        have h3 := HE13.out.e.free 3
        have h4 := HE13.out.e.free 4
        have h5 := HE13.out.e.free 5
        have h6 := HE13.out.e.free 6
        have h7 := HE13.out.e.free 7
        have hmy := may_calls ⟨1, key, y, (d : Int)⟩ w13 (rdv_keep HYY.out.2.1 HYY.out.2.2 HEY.out.o2) HSM.out.1
        rw [show mayP (peOf ⟨1, key, y, (d : Int)⟩) = true from HMAY.out] at hmy
        unfold evV at hmy
        dsimp only at hmy
        go_wp2_with fail
        refine hmy.mono ?_
        clear hmy
        rintro e w14 ⟨rfl, bm⟩
        have HE14 := Lib.hid (HE13.out.below bm)
        have HBM := Lib.hid bm
        clear bm HE13
        clear c0 c1 f1 x0 x1 x2 x3 x4 x5 x6 x7 h0 h1 h2 h3 h4 h5 h6 h7
        have HEY := Lib.hid (HEY.out.below HBM.out)
        obtain ⟨c0, c1⟩ := HE14.out.r.cells
        have f1 := HE14.out.r.free 1
        obtain ⟨x0, x1, x2, x3, x4, x5, x6, x7⟩ := HE14.out.e.cells
        have h0 := HE14.out.e.free 0
        have h1 := HE14.out.e.free 1
        have h2 := HE14.out.e.free 2
        have h3 := HE14.out.e.free 3
        have h4 := HE14.out.e.free 4
        have h5 := HE14.out.e.free 5
        have h6 := HE14.out.e.free 6
        have h7 := HE14.out.e.free 7
        go_upto_region 14 with fail
        have HEY := HEY.out.putB false
        generalize hW90 : w14.setCell ⟨g, 1, none⟩ (.bool false) = w90 at HEY ⊢
        have HE90 := Lib.hid HEY.es
        have HEY := Lib.hid HEY
        clear hW90 HE14
        clear c0 c1 f1 x0 x1 x2 x3 x4 x5 x6 x7 h0 h1 h2 h3 h4 h5 h6 h7
        obtain ⟨c0, c1⟩ := HE90.out.r.cells
        have f1 := HE90.out.r.free 1
        obtain ⟨x0, x1, x2, x3, x4, x5, x6, x7⟩ := HE90.out.e.cells
        have h0 := HE90.out.e.free 0
        have h1 := HE90.out.e.free 1
        have h2 := HE90.out.e.free 2
        have h3 := HE90.out.e.free 3
        have h4 := HE90.out.e.free 4
        have h5 := HE90.out.e.free 5
        have h6 := HE90.out.e.free 6
        have h7 := HE90.out.e.free 7
        have zf0 := HE90.out.z.free 0
        have zf1 := HE90.out.z.free 1
        have zf2 := HE90.out.z.free 2
        have zf3 := HE90.out.z.free 3
        have zf4 := HE90.out.z.free 4
        have zf5 := HE90.out.z.free 5
        have zf6 := HE90.out.z.free 6
        have zf7 := HE90.out.z.free 7
        obtain ⟨zc0, zc1, zc2, zc3, zc4, zc5, zc6, zc7⟩ := HE90.out.z.cells
        go_wp2_with fail
        have q9 := HEY.out.putR
        unfold putAll at q9
        have q := HE90.out.putR
        unfold putAll at q
        obtain ⟨wF, hF⟩ : ∃ wF, (((((((w90.setCell ⟨w.heap.size, 0, none⟩ (.int .i64 1)).setCell ⟨w.heap.size, 1, none⟩ (.string key)).setCell ⟨w.heap.size, 2, none⟩ (.int .i64 y.kind)).setCell ⟨w.heap.size, 3, none⟩ (.string y.text)).setCell ⟨w.heap.size, 4, none⟩ (.slice y.LA y.ln y.lc)).setCell ⟨w.heap.size, 5, none⟩ (.slice y.FA y.fn y.fc)).setCell ⟨w.heap.size, 6, none⟩ (.slice y.KA y.kn y.kc)).setCell ⟨w.heap.size, 7, none⟩ (.int .i64 (d : Int)) = wF := ⟨_, rfl⟩
        rw [hF] at q q9 ⊢
        clear hF
        obtain ⟨qo, qr, qe⟩ := q
        obtain ⟨t0, t1, t2, t3, t4, t5, t6, t7⟩ := qe.cells
        refine bodyPost_ret (v := evV ⟨1, key, y, (d : Int)⟩) (by simp [results, Tryz.f38, evV, go_sem, t0, t1, t2, t3, t4, t5, t6, t7]) rfl ?_
        refine ⟨_, rfl, qo, fun h => (by rw [HN.out] at h; cases h), fun p rest h => ?_⟩
        rw [HN.out] at h
        injection h with h
        injection h with h1 h2
        subst h1 h2
        refine ⟨(by rw [HKK.out]; exact qr), (by unfold peOf; rw [HSM.out.2]), rdv_keep HYY.out.2.1 HYY.out.2.2 q9, ?_, HSM.out.1⟩
        have hle := HW8.out
        obtain ⟨n1, n2, n3⟩ := HYY.out.2.2
        exact ⟨fun ad e => Nat.le_trans hle (n1 ad e), fun ad e => Nat.le_trans hle (n2 ad e), fun ad e => Nat.le_trans hle (n3 ad e)⟩
theorem effect_calls (g : Nat) (s : ByteArray) (w : World) (h : Rr w g s false) (hs : s.size ≤ 100000000) (hne : s.size ≠ 0) :
    Calls Tryz.prog 38 #[.pointer (some ⟨g, 0, none⟩)] w (EffPost g s w) := by
  have hz : s.data.toList.length = s.size := by rw [Array.length_toList]; rfl
  cases hl : s.data.toList with
  | nil => rw [hl] at hz; exact absurd hz.symm hne
  | cons b t =>
    by_cases h4 : b = 4
    · subst h4; exact eff_4 g s t w h hs hl
    by_cases h2 : b = 2
    · subst h2; exact eff_2 g s t w h hs hl
    by_cases h3 : b = 3
    · subst h3; exact eff_3 g s t w h hs hl
    by_cases h1 : b = 1
    · subst h1; exact eff_1 g s t w h hs hl
    exact eff_0 g s t w h hs b h1 h2 h3 h4 hl
end Go.Proofs.YtgmnnpbbiejbnaaGreat.EfF
