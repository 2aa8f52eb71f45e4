/-
  Effects read off bytes: the document's Decode; the law EffectReads' walk. Conditions: as stated.
-/
import Derived.Test.YtgmnnpbbiejbnaaGreatMgM
import Derived.Test.YtgmnnpbbiejbnaaGreatEfH
import Derived.Test.YtgmnnpbbiejbnaaGreatEfN
set_option maxRecDepth 100000
set_option linter.unusedSimpArgs false
set_option linter.unusedVariables false
namespace Go.Proofs.YtgmnnpbbiejbnaaGreat.EfQ
open Go.RowKit Go.Proofs.YtgmnnpbbiejbnaaGreat.Mem Go.Proofs.YtgmnnpbbiejbnaaGreat.VaA Go.Proofs.YtgmnnpbbiejbnaaGreat.VaC Go.Proofs.YtgmnnpbbiejbnaaGreat.VaE Go.Proofs.YtgmnnpbbiejbnaaGreat.VaH Go.Proofs.YtgmnnpbbiejbnaaGreat.VaI Go.Proofs.YtgmnnpbbiejbnaaGreat.VaX Go.Proofs.YtgmnnpbbiejbnaaGreat.DuA Go.Proofs.YtgmnnpbbiejbnaaGreat.SpA Go.Proofs.YtgmnnpbbiejbnaaGreat.SpB Go.Proofs.YtgmnnpbbiejbnaaGreat.SpC Go.Proofs.YtgmnnpbbiejbnaaGreat.SpD Go.Proofs.YtgmnnpbbiejbnaaGreat.SpE Go.Proofs.YtgmnnpbbiejbnaaGreat.SpF Go.Proofs.YtgmnnpbbiejbnaaGreat.SpG Go.Proofs.YtgmnnpbbiejbnaaGreat.EfA Go.Proofs.YtgmnnpbbiejbnaaGreat.EfB Go.Proofs.YtgmnnpbbiejbnaaGreat.EfD Go.Proofs.YtgmnnpbbiejbnaaGreat.EfE Go.Proofs.YtgmnnpbbiejbnaaGreat.EfF Go.Proofs.YtgmnnpbbiejbnaaGreat.EfG Go.Proofs.YtgmnnpbbiejbnaaGreat.EfH Go.Proofs.YtgmnnpbbiejbnaaGreat.EfN Go.Proofs.YtgmnnpbbiejbnaaGreat.SpH Go.Proofs.YtgmnnpbbiejbnaaGreat.SpI Go.Proofs.YtgmnnpbbiejbnaaGreat.SpJ Go.Proofs.YtgmnnpbbiejbnaaGreat.SpK Go.Proofs.YtgmnnpbbiejbnaaGreat.SpM Go.Proofs.YtgmnnpbbiejbnaaGreat.SpO Go.Proofs.YtgmnnpbbiejbnaaGreat.SpP Go.Proofs.YtgmnnpbbiejbnaaGreat.SpR Go.Proofs.YtgmnnpbbiejbnaaGreat.SpV Go.Proofs.YtgmnnpbbiejbnaaGreat.SpZ Go.Proofs.YtgmnnpbbiejbnaaGreat.SrC
open Go.Proofs.YtgmnnpbbiejbnaaGreat.VaP (unle unle_lt)
open Go.Proofs.YtgmnnpbbiejbnaaGreat.VbA (decD)
open Go.Proofs.YtgmnnpbbiejbnaaGreat.VbB (NwW DecPost)
open Go.Proofs.YtgmnnpbbiejbnaaGreat.EfL (sure_calls)

set_option maxHeartbeats 4000000 in
theorem decodeR_calls (s : ByteArray) (w : World) (hs : s.size ≤ 100000000) :
    Calls Tryz.prog 14 #[.string s] w (DcPost s w) := by
  go_enter Tryz.func14, Tryz.ntmps14
  go_wp2_with fail
  go_loopw [0, 4] (fun sv v wr => ∃ (r : ByteArray) (es : List EV) (l : List PE) (f : Nat), sv = .string r ∧ Fv wr w.heap.size v es l ∧ r.size ≤ f ∧ r.size + l.length ≤ s.size ∧ decAll s = (decF f r).map (l ++ ·) ∧ Below w.heap.size w wr) (fun sv _ _ => match sv with | .string r => r.size | _ => 0)
  case atStart => exact ⟨s, [], [], s.size, rfl, Fv.nil _ _, Nat.le_refl _, Nat.le_refl _, by unfold decAll; cases decF s.size s <;> rfl, Below.refl _ _⟩
  case round =>
    obtain ⟨r, es, l, f, rfl, hF, hf, hrl, hd, hb⟩ := hrel
    obtain ⟨A, c, rfl⟩ := own_form hF.own
    by_cases h0 : r.size = 0
    · have hE : r.toList.isEmpty = true := by rw [str_empty]; exact decide_eq_true h0
      have hd2 : decAll s = some l := by rw [hd, decF_end h0]; simp
      have HX := Lib.hid (And.intro hF (And.intro hb hd2))
      clear hF hb hd hd2 hf hrl h0
      go_wp2_with fail
      go_ret2
      obtain ⟨hF, hb, hd2⟩ := HX.out
      unfold DcPost
      rw [hd2]
      exact ⟨hb, _, es, rfl, hF⟩
    · have hE : r.toList.isEmpty = false := by rw [str_empty]; exact decide_eq_false h0
      have htk := take_calls r wr (by omega) h0
      have HX := Lib.hid (And.intro hF (And.intro hb (And.intro hd (And.intro hf (And.intro hrl h0)))))
      have hln : es.length = l.length := hF.rel.1
      have hlen : es.length ≤ 100000000 := by omega
      clear hF hb hd hf hrl h0 hln
      go_wp2_with fail
      refine htk.mono ?_
      clear htk
      rintro e w4 ⟨ev, rest, ok, rfl, b4, hno, hso⟩
      unfold evV
      obtain ⟨hF, hb, hd, hf, hrl, h0⟩ := HX.out
      have hF4 : Fv w4 w.heap.size (.slice A es.length c) es l := hF.below b4
      have hb4 : Below w.heap.size w w4 := EfJ.bb hb b4
      cases hc : eff1 r with
      | none =>
        obtain rfl := hno hc
        have hd2 : decAll s = none := by rw [hd, decF_none h0 hc]; rfl
        have HN := Lib.hid (And.intro hd2 hb4)
        clear hF hb hd hf hrl h0 hF4 hb4 hd2 hno hso hc b4
        go_wp2_with fail
        go_ret2
        unfold DcPost
        rw [HN.out.1]
        exact ⟨HN.out.2.alloc HN.out.2.size _, rfl⟩
      | some pr =>
        obtain ⟨p, r'⟩ := pr
        obtain ⟨rfl, rfl, hpe, hrv, hnw, hsm⟩ := hso p r' hc
        have hlt := eff1_lt hc
        have hre : RdEv w4 (fun q => q < w.heap.size ∨ (Value.slice A es.length c).ownBlock = some q) ev p := by
          subst hpe
          exact ⟨rfl, rfl, rfl, Vok.new (B := wr.heap.size) hrv rfl ((sm_pv hrv).1 hsm) hnw (fun k e => e.elim (fun e => by have := hb.size; omega) (fun e => (hF.own.lt k e).2))⟩
        have hd2 : decAll s = (decF (f - 1) rest).map ((l ++ [p]) ++ ·) := by rw [hd, decF_some h0 hf hc]; cases decF (f - 1) rest <;> simp
        have hl2 : rest.size + (l ++ [p]).length ≤ s.size := by rw [List.length_append, List.length_singleton]; omega
        have hf2 : rest.size ≤ f - 1 := by omega
        have HN := Lib.hid (And.intro hd2 (And.intro hb4 (And.intro hF4 (And.intro hre (And.intro hl2 (And.intro hlt hf2))))))
        clear hF hb hd hf hrl h0 hF4 hb4 hd2 hno hso hc hre hl2 hlt hpe hrv hnw hsm b4 hf2
        go_upto_region 4 with fail
        generalize hW5 : w4.alloc _ = W5
        have b5 : Below w4.heap.size w4 W5 := by rw [← hW5]; exact (Below.refl _ _).alloc (Nat.le_refl _) _
        have hbx : Be W5 w4.heap.size ev.kind ev.key ev.x ev.due := by rw [← hW5]; exact heap_alloc_new w4 _
        generalize hgz : w4.heap.size = bx at hbx ⊢
        obtain ⟨x0, x1, x2, x3, x4, x5, x6, x7⟩ := hbx.cells
        obtain ⟨hd2, hb4, hF4, hre, hl2, hlt, hf2⟩ := HN.out
        have hF5 := hF4.below b5
        have hre5 : RdEv W5 (fun q => q < w.heap.size ∨ (Value.slice A es.length c).ownBlock = some q) ev p := ⟨hre.1, hre.2.1, hre.2.2.1, hre.2.2.2.below b5⟩
        have hb5 := EfJ.bb hb4 b5
        have hoA := own_only hF5.own ((Only.refl (fun _ => False) W5).alloc (.cells #[.int .i64 ev.kind, .string ev.key, .int .i64 ev.x.kind, .string ev.x.text, .slice ev.x.LA ev.x.ln ev.x.lc, .slice ev.x.FA ev.x.fn ev.x.fc, .slice ev.x.KA ev.x.kn ev.x.kc, .int .i64 ev.due] 44)) (fun _ _ h => h)
        have hgA : w.heap.size ≤ (W5.alloc (.cells #[.int .i64 ev.kind, .string ev.key, .int .i64 ev.x.kind, .string ev.x.text, .slice ev.x.LA ev.x.ln ev.x.lc, .slice ev.x.FA ev.x.fn ev.x.fc, .slice ev.x.KA ev.x.kn ev.x.kc, .int .i64 ev.due] 44)).heap.size := by rw [World.size_alloc]; have := hb5.size; omega
        have HM := Lib.hid (And.intro hF5 (And.intro hre5 hb5))
        clear hd2 hb4 hF4 hre hl2 hlt hf2 b5 hbx hgz hW5 hF5 hre5 hb5
        go_wp2_with (at_builtin; refine wpList_app rfl (.tmp 18) (.tmp 20) elEv rfl w.heap.size (.slice A es.length c) es.length (rows EV.cells es) rfl hoA (some ⟨W5.heap.size, 0, none⟩) 1 1 ev.cells rfl (rd_new W5 ev.cells 44 8 rfl) (ev_one _) (by unfold maxLen; omega) (by omega) hgA ?_; intro v6 w6 h1 h2 h3)
        obtain ⟨hd2, hb4, hF4, hre, hl2, hlt, hf2⟩ := HN.out
        obtain ⟨hF5, hre5, hb5⟩ := HM.out
        have hb6 : Below w.heap.size w w6 := h2.after (hb5.alloc hb5.size _) (Nat.le_refl _) (fun q e => (hF5.own.lt q e).1)
        exact ⟨⟨rest, es ++ [ev], l ++ [p], f - 1, rfl, hF5.next hre5 h1 h2 h3, hf2, hl2, hd2, hb6⟩, hlt⟩
set_option maxHeartbeats 4000000 in
theorem reads_upto (s : ByteArray) (W : World) (hs : s.size ≤ 1048576) :
    Calls Tryz.prog 4 #[.string s] W fun e w' => e = .returned (.bool true) ∧ Below W.heap.size W w' := by
  have h1 := decode_calls s W (by omega)
  have h2 := fun w => decodeR_calls s w (by omega)
  cases hd : decAll s with
  | none =>
    go_enter Tryz.func4, Tryz.ntmps4
    go_wp2_with fail
    refine h1.mono ?_
    clear h1
    rintro e w1 ⟨b1, g1⟩
    rw [hd] at g1
    dsimp only at g1
    subst g1
    have HB1 := Lib.hid b1
    clear b1
    go_wp2_with fail
    refine (h2 _).mono ?_
    clear h2
    rintro e w2 ⟨b2, g2⟩
    rw [hd] at g2
    dsimp only at g2
    subst g2
    have HB2 := Lib.hid (EfJ.bb HB1.out b2)
    have hse := sameEffects_eq none none 0 0 0 [] [] w2 (Rd.nil _ _) (Rd.nil _ _) (fun e he => by cases he) (fun e he => by cases he) rfl
    clear b2
    go_wp2_with fail
    refine hse.mono ?_
    clear hse
    rintro e w3 ⟨rfl, b3⟩
    have HB3 := Lib.hid (EfJ.bb HB2.out b3)
    clear b3
    go_wp2_with fail
    refine (sure_calls _).mono ?_
    rintro e w4 ⟨rfl, b4⟩
    go_wp2_with fail
    go_ret
    exact ⟨rfl, EfJ.bb HB3.out b4⟩
  | some l =>
    go_enter Tryz.func4, Tryz.ntmps4
    go_wp2_with fail
    refine h1.mono ?_
    clear h1
    rintro e w1 ⟨b1, g1⟩
    rw [hd] at g1
    dsimp only at g1
    obtain ⟨v1, es1, rfl, F1⟩ := g1
    obtain ⟨A1, c1, rfl⟩ := own_form F1.own
    have HB1 := Lib.hid (And.intro b1 F1)
    clear b1 F1
    go_wp2_with fail
    refine (h2 _).mono ?_
    clear h2
    rintro e w2 ⟨b2, g2⟩
    rw [hd] at g2
    dsimp only at g2
    obtain ⟨v2, es2, rfl, F2⟩ := g2
    obtain ⟨A2, c2, rfl⟩ := own_form F2.own
    obtain ⟨b1, F1⟩ := HB1.out
    have F1' := F1.below b2
    obtain ⟨m1, r1⟩ := evs_map F1'.rel
    obtain ⟨m2, r2⟩ := evs_map F2.rel
    have hl : es2.length = es1.length := by have a := F1.rel.1; have b := F2.rel.1; omega
    have rd2 := Rd.of_own F2.own
    rw [hl] at rd2 ⊢
    have hse := sameEffects_eq A1 A2 es1.length c1 c2 es1 es2 w2 (Rd.of_own F1'.own) rd2 (fun e he => (r1 e he).1) (fun e he => (r2 e he).1) (m1.trans m2.symm)
    have HB2 := Lib.hid (EfJ.bb b1 b2)
    clear b1 F1 F1' m1 r1 m2 r2 F2 rd2 b2 hl
    go_wp2_with fail
    refine hse.mono ?_
    clear hse
    rintro e w3 ⟨rfl, b3⟩
    have HB3 := Lib.hid (EfJ.bb HB2.out b3)
    clear b3
    go_wp2_with fail
    refine (sure_calls _).mono ?_
    rintro e w4 ⟨rfl, b4⟩
    go_wp2_with fail
    go_ret
    exact ⟨rfl, EfJ.bb HB3.out b4⟩
end Go.Proofs.YtgmnnpbbiejbnaaGreat.EfQ
