/-
  The document's tests of ranks. Conditions: as stated.
-/
import Derived.Test.YtgmnnpbbiejbnaaGreatMgC
import Derived.Deep.RegionHeld3
set_option maxRecDepth 100000
set_option linter.unusedSimpArgs false
set_option linter.unusedVariables false
namespace Go.Proofs.YtgmnnpbbiejbnaaGreat.VaM
open Go.RowKit Go.Proofs.YtgmnnpbbiejbnaaGreat.Mem Go.Proofs.YtgmnnpbbiejbnaaGreat.VaA Go.Proofs.YtgmnnpbbiejbnaaGreat.VaB Go.Proofs.YtgmnnpbbiejbnaaGreat.VaC Go.Proofs.YtgmnnpbbiejbnaaGreat.VaD Go.Proofs.YtgmnnpbbiejbnaaGreat.VaE Go.Proofs.YtgmnnpbbiejbnaaGreat.VaF Go.Proofs.YtgmnnpbbiejbnaaGreat.VaG Go.Proofs.YtgmnnpbbiejbnaaGreat.VaH Go.Proofs.YtgmnnpbbiejbnaaGreat.VaJ Go.Proofs.YtgmnnpbbiejbnaaGreat.VaK Go.Proofs.YtgmnnpbbiejbnaaGreat.VaL

set_option maxHeartbeats 1000000 in
theorem ahead_calls (a b : ByteArray × Int) (w : World) :
    Calls Tryz.prog 101 #[.agg #[.string a.1, .int .i64 a.2], .agg #[.string b.1, .int .i64 b.2]] w fun e w' => e = .returned (.bool (VaG.ahead a b)) ∧ Below w.heap.size w w' := by
  have bel : Below w.heap.size w ((w.alloc (.cells #[.string a.1, .int .i64 a.2] 115)).alloc (.cells #[.string b.1, .int .i64 b.2] 115)) := ((Below.refl _ w).alloc (Nat.le_refl _) _).alloc (by simp) _
  go_enter Tryz.func101, Tryz.ntmps101
  rcases Int.lt_trichotomy a.2 b.2 with h | h | h
  · go_wp2_with fail
    go_ret
    exact ⟨by rw [show VaG.ahead a b = true by unfold VaG.ahead; simp [h]]; rfl, bel⟩
  · have h' : ¬ a.2 < b.2 := by omega
    cases hl : Op.bytesLess a.1.toList b.1.toList
    · have HL := Lib.hid (And.intro h hl)
      go_wp2_with fail
      go_ret
      exact ⟨by rw [show VaG.ahead a b = false by unfold VaG.ahead ltS; rw [HL.out.2]; simp; omega]; rfl, by first | exact bel | (rw [← HL.out.1]; exact bel) | exact ((Below.refl _ w).alloc (Nat.le_refl _) _).alloc (by simp) _⟩
    · have HL := Lib.hid (And.intro h hl)
      go_wp2_with fail
      go_ret
      exact ⟨by rw [show VaG.ahead a b = true by unfold VaG.ahead ltS; rw [HL.out.2]; simp; omega]; rfl, by first | exact bel | exact ((Below.refl _ w).alloc (Nat.le_refl _) _).alloc (by simp) _⟩
  · have h1 : ¬ a.2 < b.2 := by omega
    have h2 : ¬ a.2 = b.2 := by omega
    go_wp2_with fail
    go_ret
    exact ⟨by rw [show VaG.ahead a b = false by unfold VaG.ahead; simp; omega]; rfl, bel⟩

/-- What the last test of a round reads. -/
abbrev Sr (wr : World) (q0 q1 : Addr) (f t : ByteArray × Int) (w' : World) : Prop := Below wr.heap.size wr w' ∧ w'.cell? q0 = some (.string f.1) ∧ w'.cell? ⟨q0.block, q0.off + 1, none⟩ = some (.int .i64 f.2) ∧ w'.cell? q1 = some (.string t.1) ∧ w'.cell? ⟨q1.block, q1.off + 1, none⟩ = some (.int .i64 t.2)
theorem cell_b {w w' : World} {q : Addr} {u : Value} (hc : w.cell? q = some u) (hb : Below w.heap.size w w') : w'.cell? q = some u := (Only.of_below hb).cell hc (by have := cell_lt hc; omega)
theorem sr_below {wr w w' : World} {q0 q1 : Addr} {f t : ByteArray × Int} (h : Sr wr q0 q1 f t w) (k : Below w.heap.size w w') : Sr wr q0 q1 f t w' := ⟨h.1.trans (k.mono h.1.size), cell_b h.2.1 k, cell_b h.2.2.1 k, cell_b h.2.2.2.1 k, cell_b h.2.2.2.2 k⟩
theorem sr_drew {wr : World} {q0 q1 : Addr} {f t : ByteArray × Int} (h : Sr wr q0 q1 f t wr) : Sr wr q0 q1 f t wr.drew := sr_below h ((Below.refl _ _).drew)

set_option maxHeartbeats 2000000 in
theorem rankedR_calls (A : Option Addr) (n c : Nat) (l : List (ByteArray × Int)) (w : World) (hr : RdK w A n c l) (hn : n ≤ 100000000) :
    Calls Tryz.prog 95 #[.slice A n c] w fun e w' => e = .returned (.bool (okK l)) ∧ Below w.heap.size w w' := by
  obtain rfl := rdk_len hr
  have hcap := hr.cap
  have hbig : c ≤ 9223372036854775807 := hr.big
  go_enter Tryz.func95, Tryz.ntmps95
  go_wp2_with fail
  go_loopw [3, 4] (fun v i wr => ∃ k : Nat, k ≤ l.length ∧ i = .int .i64 k ∧ OwnS wr w.heap.size v ((l.take k).map Prod.fst) ∧ ((l.take k).all okK1 = true ∧ ∀ j a b, j + 1 < k → l[j]? = some a → l[j + 1]? = some b → VaG.ahead a b = true) ∧ Below w.heap.size w wr) (fun _ i _ => l.length - (intOf i).toNat)
  case atStart => exact ⟨0, Nat.zero_le _, rfl, World.ownsRow_nil _ _ _ _, ⟨rfl, fun j a b h => by omega⟩, Below.refl _ _⟩
  case round =>
    obtain ⟨k, hk, rfl, ho, hin, hb⟩ := hrel
    have Hin := Lib.hid hin
    clear hin
    by_cases hlt : k < l.length
    · obtain ⟨f, hf⟩ : ∃ f, l[k]? = some f := ⟨_, List.getElem?_eq_getElem hlt⟩
      obtain ⟨p, rfl, cp0, cp1⟩ := rdk_get (hr.below hb) hf
      have k0 : wr.cell? (p.add (k * 2)) = some (.string f.1) := cp0
      have k1 : wr.cell? ⟨(p.add (k * 2)).block, (p.add (k * 2)).off + 1, none⟩ = some (.int .i64 f.2) := cp1
      have hlk : ((l.take k).map Prod.fst).length = k := by simp; omega
      have Hf := Lib.hid hf
      have Hb := Lib.hid hb
      have Ho := Lib.hid ho
      clear cp0 cp1 hf hb ho
      cases h1 : shortB f.1
      · have hd1 := short_no h1
        have H1 := Lib.hid h1
        clear h1
        go_wp2_with fail
        go_quiet (fail)
        go_wp2_with fail
        go_ret
        exact ⟨by rw [okK_1 Hf.out (by unfold okK1; rw [H1.out]; rfl)]; rfl, VaF.below_drawn_ Hb.out _⟩
      have hd1 := short_yes h1
      have H1 := Lib.hid h1
      clear h1
      by_cases hlo : f.2 < -9007199254740992
      · have hdl : decide (f.2 < -9007199254740992) = true := by simp [hlo]
        go_wp2_with fail
        go_quiet (fail)
        go_wp2_with fail
        go_ret
        exact ⟨by rw [okK_1 Hf.out (by unfold okK1; rw [H1.out]; simp; omega)]; rfl, VaF.below_drawn_ Hb.out _⟩
      have hdl : decide (f.2 < -9007199254740992) = false := by simp; omega
      by_cases hhi : 9007199254740992 < f.2
      · have hdh : decide (9007199254740992 < f.2) = true := by simp [hhi]
        go_wp2_with fail
        go_quiet (fail)
        go_wp2_with fail
        go_ret
        exact ⟨by rw [okK_1 Hf.out (by unfold okK1; rw [H1.out]; simp; omega)]; rfl, VaF.below_drawn_ Hb.out _⟩
      have hdh : decide (9007199254740992 < f.2) = false := by simp; omega
      have hAl : (l.take (k + 1)).all okK1 = true := take_all Hf.out Hin.out.1 (by unfold okK1; rw [H1.out]; simp; omega)
      have HA := Lib.hid hAl
      clear hAl
      have HLH := Lib.hid (And.intro hlo hhi)
      clear hlo hhi
      rcases Nat.eq_zero_or_pos k with h0 | hpos
      · have hdec : decide (0 < k) = false := by rw [h0]; rfl
        have H0 := Lib.hid h0
        clear h0
        go_wp2_with fail
        go_quiet (fail)
        go_wp2_with (at_builtin; refine wpList_app1 rfl (.tmp 51) (.tmp 57) elS rfl w.heap.size _ _ _ rfl Ho.out (.string f.1) rfl rfl (by rw [hlk]; unfold maxLen; omega) (by rw [hlk]; omega) Hb.out.size ?_; intro v' w3 o3 b3 f3)
        refine ⟨⟨k + 1, by omega, by go_num, ?_, ⟨HA.out, fun i a b hi => by have := H0.out; omega⟩, b3.after (VaF.below_drawn_ Hb.out _) (Nat.le_refl _) (fun b hb => (Ho.out.lt b hb).1)⟩, by simp [intOf]; omega⟩
        rw [VaG.take_one Hf.out, List.map_append]
        exact own_snocS o3
      · obtain ⟨j, hj⟩ : ∃ j, k = j + 1 := ⟨k - 1, by omega⟩
        obtain ⟨t, ht⟩ : ∃ t, l[j]? = some t := ⟨_, List.getElem?_eq_getElem (by omega)⟩
        obtain ⟨q, e, cq0, cq1⟩ := rdk_get (hr.below Hb.out) ht
        injection e with e; subst e
        have hS : Sr wr (p.add (k * 2)) (p.add (j * 2)) f t wr := ⟨Below.refl _ _, k0, k1, cq0, cq1⟩
        have hj2 : j < l.length := by omega
        have hp' : (0 : Int) < (k : Int) := by omega
        have hw1 : IntKind.i64.wrap ((k : Int) - 1) = (j : Int) := by rw [Go.IntWalk.i64_in _ (by omega)]; omega
        have hac := fun w' => ahead_calls t f w'
        have Hj := Lib.hid hj
        have Ht := Lib.hid ht
        clear cq0 cq1 hj ht
        obtain ⟨b, hah⟩ : ∃ b, VaG.ahead t f = b := ⟨_, rfl⟩
        rw [hah] at hac
        have HAH := Lib.hid hah
        clear hah
        cases b
        · skip
          go_wp2_with fail
          go_region_held3 (fun w' => Sr wr (p.add (k * 2)) (p.add (j * 2)) f t w')
            (first
              | exact sr_drew hS
              | assumption
              | exact sr_below (by assumption) (by assumption))
            (first
              | (go_at_call 101; refine (hac _).mono ?_; rintro e w5 ⟨rfl, hb5⟩))
          all_goals (
            obtain ⟨hS1, -, -, -, -⟩ := (‹Sr wr (p.add (k * 2)) (p.add (j * 2)) f t _›)
            go_wp2_with fail
            go_ret
            exact ⟨by rw [okK_2 Ht.out (by rw [← Hj.out]; exact Hf.out) HAH.out]; rfl, Hb.out.trans (hS1.mono Hb.out.size)⟩)
        · skip
          go_wp2_with fail
          go_region_held3 (fun w' => Sr wr (p.add (k * 2)) (p.add (j * 2)) f t w')
            (first
              | exact sr_drew hS
              | assumption
              | exact sr_below (by assumption) (by assumption))
            (first
              | (go_at_call 101; refine (hac _).mono ?_; rintro e w5 ⟨rfl, hb5⟩))
          all_goals (
            obtain ⟨hS1, hS2, hS3, -, -⟩ := (‹Sr wr (p.add (k * 2)) (p.add (j * 2)) f t _›)
            have how := ownbS Ho.out hS1
            have hbw := Hb.out.trans (hS1.mono Hb.out.size)
            have HW := Lib.hid (And.intro how hbw)
            clear how hbw
            go_wp2_with (at_builtin; refine wpList_app1 rfl (.tmp 51) (.tmp 57) elS rfl w.heap.size _ _ _ rfl HW.out.1 (.string f.1) rfl rfl (by rw [hlk]; unfold maxLen; omega) (by rw [hlk]; omega) HW.out.2.size ?_; intro v' w3 o3 b3 f3)
            refine ⟨⟨k + 1, by omega, by go_num, ?_, ⟨HA.out, fun i a b hi ha hb' => ?_⟩, b3.after HW.out.2 (Nat.le_refl _) (fun b hb => (HW.out.1.lt b hb).1)⟩, by simp [intOf]; omega⟩
            · rw [VaG.take_one Hf.out, List.map_append]
              exact own_snocS o3
            · by_cases h : i + 1 < k
              · exact Hin.out.2 i a b h ha hb'
              · obtain rfl : i = j := by have := Hj.out; omega
                rw [Ht.out] at ha; injection ha with ha; subst ha
                rw [← Hj.out, Hf.out] at hb'; injection hb' with hb'; subst hb'
                exact HAH.out)
    · obtain rfl : k = l.length := by omega
      rw [List.take_length] at ho
      obtain ⟨hA1, hA2⟩ := Hin.out
      rw [List.take_length] at hA1
      have hlm : (l.map Prod.fst).length = l.length := by simp
      have hris : ris VaG.ahead l = true := (ris_iff _ l).2 (fun j a b ha hb => hA2 j a b (by have := (List.getElem?_eq_some_iff.1 hb).1; omega) ha hb)
      have hok : okK l = decide ((l.map Prod.fst).Nodup) := by unfold okK; rw [hA1, hris]; simp
      have hof := (of_facts (l.map Prod.fst)).2.2.2
      rw [hlm] at hof
      have HOK := Lib.hid (And.intro hok hof)
      clear hA1 hA2 hris hok hof hlt Hin
      obtain ⟨A3, c3, rfl⟩ := own_form ho
      have hro : RdS wr A3 l.length c3 (l.map Prod.fst) := by have h := rds_own ho; rwa [hlm] at h
      have HH := Lib.hid (And.intro ho hb)
      clear ho hb
      go_wp2_with fail
      refine (ofR_calls A3 l.length c3 (l.map Prod.fst) wr hro hn).mono ?_
      rintro e w1 ⟨v1, rfl, o1, b1⟩
      obtain ⟨A4, c4, rfl⟩ := own_form o1
      by_cases hnd : (ofL (l.map Prod.fst)).length = l.length
      · have H1 := Lib.hid hnd
        go_wp2_with fail
        go_ret
        exact ⟨by rw [HOK.out.1, decide_eq_true (HOK.out.2.1 H1.out)]; rfl, HH.out.2.trans (b1.mono HH.out.2.size)⟩
      · have H1 := Lib.hid hnd
        have hbq : (((ofL (l.map Prod.fst)).length : Int) == (l.length : Int)) = false := by simp; omega
        go_wp2_with fail
        go_ret
        exact ⟨by rw [HOK.out.1, decide_eq_false (fun h => H1.out (HOK.out.2.2 h))]; rfl, HH.out.2.trans (b1.mono HH.out.2.size)⟩
end Go.Proofs.YtgmnnpbbiejbnaaGreat.VaM
