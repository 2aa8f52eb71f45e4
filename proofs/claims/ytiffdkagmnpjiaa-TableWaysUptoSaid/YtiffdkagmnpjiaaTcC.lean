/-
  The law TableWays, one way (the index's sign; the arity's sign). Conditions: as stated.
-/
import Derived.Test.YtiffdkagmnpjiaaTbZ
set_option maxRecDepth 100000
set_option linter.unusedSimpArgs false
set_option linter.unusedVariables false
namespace Go.Proofs.Ytiffdkagmnpjiaa.TcC
open Go.RowKit Go.Proofs.Ytiffdkagmnpjiaa.Mem Go.Proofs.Ytiffdkagmnpjiaa.TbA Go.Proofs.Ytiffdkagmnpjiaa.TbB Go.Proofs.Ytiffdkagmnpjiaa.Bytes Go.Proofs.Ytiffdkagmnpjiaa.TbI Go.Proofs.Ytiffdkagmnpjiaa.TbN Go.Proofs.Ytiffdkagmnpjiaa.TbO Go.Proofs.Ytiffdkagmnpjiaa.TbQ Go.Proofs.Ytiffdkagmnpjiaa.TbR Go.Proofs.Ytiffdkagmnpjiaa.TbS Go.Proofs.Ytiffdkagmnpjiaa.TbX Go.Proofs.Ytiffdkagmnpjiaa.TbY Go.Proofs.Ytiffdkagmnpjiaa.TbZ

set_option maxHeartbeats 8000000 in
theorem way (at_ : Int) (A : Option Addr) (n c : Nat) (words : List ByteArray) (w : World) (h1 : -9223372036854775808 ≤ at_) (h2 : at_ ≤ 9223372036854775807) (hr : RdS w A n c words) (hs : Small words)
    (m : Nat) (hm : m < 118) (x : Sp) (hx : rowsL[m]? = some x) (hq : 0 ≤ at_ ∧ at_.tmod 118 = m) (hsg : x.ar = -(x.ar.natAbs : Int)) : Calls Try.prog 7 #[.int .i64 at_, .slice A n c] w fun e w' => e = .returned (.bool true) ∧ Below w.heap.size w w' := by
  obtain rfl := rds_len hr
  have hcap := hr.cap
  have hbig : c ≤ 9223372036854775807 := hr.big
  have hln := hs.1
  have Hr := Lib.hid hr
  have Hs := Lib.hid hs
  have hmi : (m : Int) < 118 := by omega
  have Hm : Hid (x ∈ rowsL) := List.mem_of_getElem? hx
  have Hx := Lib.hid hx
  clear hr hs hx
  go_enter Try.func7, Try.ntmps7
  go_wp2_with fail
  refine (TbC.rows_calls _).mono ?_
  rintro e w1 ⟨v1, rfl, o1, b1⟩
  obtain ⟨A1, c1, rfl⟩ := own_form o1
  rw [TbG.rowsL_len] at o1 ⊢
  obtain ⟨g1, rfl, r1⟩ := own_at (TbG.rowsL_len.symm ▸ o1)
  have hcap1 := r1.cap
  have hbig1 : c1 ≤ 9223372036854775807 := r1.big
  obtain ⟨x0, x1, x2, x3, x4, x5, x6⟩ := rdg_get r1 Hx.out
  obtain ⟨xn, xa, xw, xc, xf, xl, xs⟩ := x
  simp only at x0 x1 x2 x3 x4 x5 x6 hsg
  clear o1 r1 Hx
  obtain ⟨N, hN⟩ : ∃ N : Nat, N = xa.natAbs := ⟨_, rfl⟩
  have hN1 : 1 ≤ N ∧ N ≤ 5 := by have := row_keys Hm.out; simp only at this; omega
  have HN := Lib.hid hN
  have Hsg := Lib.hid hsg
  clear hN hsg
  have hxs : xn.size ≤ 32 := (TbO.find_mem (find_self Hm.out)).1
  obtain ⟨wb, hwb⟩ : ∃ wb, wb = w1.alloc (.cells #[.string xn, .int .i64 xa, .bool xw, .bool xc, .int .i64 xf, .int .i64 xl, .int .i64 xs] 23) := ⟨_, rfl⟩
  have hcv := Lib.run_convert_string_bytes (P := Try.prog) wb 9 37 5 xn Try.underlying9 Try.underlying37 Try.underlying5
  have hB0 := Bts.made wb 5 xn
  have hb0 := below_made wb 5 xn
  have hbs : wb.heap.size = w1.heap.size + 1 := by rw [hwb]; simp
  have hz : wb.heap[w1.heap.size]? = some (.cells #[.string xn, .int .i64 xa, .bool xw, .bool xc, .int .i64 xf, .int .i64 xl, .int .i64 xs] 23 (0, 0)) := by rw [hwb]; exact heap_alloc_new w1 _
  have hbw : Below w.heap.size w wb := by rw [hwb]; exact b1.alloc b1.size _
  have z1 : wb.cell? ⟨w1.heap.size, 1, none⟩ = some (.int .i64 xa) := by simp [World.cell?, hz]
  have z0 : wb.cell? ⟨w1.heap.size, 0, none⟩ = some (.string xn) := by simp [World.cell?, hz]
  have Hz := Lib.hid hz
  have Hbw := Lib.hid hbw
  have HB0 := Lib.hid hB0
  have Hb0 := Lib.hid hb0
  clear hz hbw hB0 hb0 b1
  rw [hbs] at hcv
  have Hf := Lib.hid (And.intro (find_self Hm.out) (And.intro (find_up Hm.out) (lower_up Hm.out)))
  have Hlet : Hid (∀ x ∈ xn.data.toList, 97 ≤ x.toNat ∧ x.toNat ≤ 122) := fun x hx => letters Hm.out hx
  have hl : Hid (xn.data.toList.length = xn.size) := TbH.bytes_len xn
  have z4 : Hid (wb.cell? ⟨w1.heap.size, 4, none⟩ = some (.int .i64 xf)) := by show _ = _; simp [World.cell?, Hz.out]
  obtain ⟨hq1, hq2⟩ := hq
  go_upto_region 5 with fail
  rw [← hwb]
  clear hwb x0 x1 x2 x3 x4 x5 x6
  obtain rfl : xa = (-(N : Int)) := by have := HN.out; have := Hsg.out; omega
  clear Hsg
  go_upto_region 10 with fail
  go_loopw [9] (fun i wr => ∃ j : Nat, j % 2 = 0 ∧ j ≤ xn.size + 1 ∧ i = .int .i64 j ∧ Bts wr (w1.heap.size + 1) 5 (upTo xn.data.toList j) ∧ Below (w1.heap.size + 1) wb wr) (fun i _ => xn.size + 3 - (intOf i).toNat)
  case atStart => exact ⟨0, rfl, Nat.zero_le _, rfl, by rw [upTo_zero]; exact hbs ▸ HB0.out, hbs ▸ Hb0.out⟩
  case round =>
    clear HB0 Hb0
    obtain ⟨j, hj2, hj, rfl, hB, hb⟩ := hrel
    have hml : Hid ((upTo xn.data.toList j).length = xn.size) := by show _ = _; rw [upTo_len, hl.out]
    by_cases hlt : j < xn.size
    · obtain ⟨y, hy⟩ : ∃ y, xn.data.toList[j]? = some y := ⟨_, TbH.bytes_at xn j hlt⟩
      have hy1 := (Hlet.out y (List.mem_of_getElem? hy)).1
      have hy2 := (Hlet.out y (List.mem_of_getElem? hy)).2
      have hy3 : (97 : Int) ≤ y.toNat := by omega
      have hy4 : (y.toNat : Int) ≤ 122 := by omega
      have c1 := hB.cell (upTo_get hy)
      have f1 := hB.free (j := j) (by rw [hml.out]; exact hlt)
      have hP := Lib.hid (hB.put (j := j) (by rw [hml.out]; exact hlt) (y - 32))
      rw [upTo_set hj2 hy, sub_byte (by omega)] at hP
      clear hy
      go_wp2_with fail
      exact ⟨⟨j + 2, by omega, by omega, by go_num, hP.out, hb.setCell (p := ⟨w1.heap.size + 1, j, none⟩) (Nat.le_refl _) _⟩, by simp [intOf]; omega⟩
    · rw [upTo_all (by rw [hl.out]; omega)] at hB
      have hzr : wr.heap[w1.heap.size]? = some (.cells #[.string xn, .int .i64 (-(N : Int)), .bool xw, .bool xc, .int .i64 xf, .int .i64 xl, .int .i64 xs] 23 (0, 0)) := by rw [hb.block _ (by omega)]; exact Hz.out
      have z0 : wr.cell? ⟨w1.heap.size, 0, none⟩ = some (.string xn) := by simp [World.cell?, hzr]
      have Bw : Below w.heap.size w wr := Hbw.out.trans (hb.mono (by have := Hbw.out.size; omega))
      have hgl : w1.heap.size + 1 < wr.heap.size := hB.lt
      have Hzr := Lib.hid hzr
      have HB := Lib.hid hB
      have HBw := Lib.hid Bw
      clear hzr hB hb Hz Hbw Bw hml z1 z4
      obtain ⟨W3, rfl⟩ : ∃ W3, W3 = wr := ⟨_, rfl⟩
      go_wp2_with fail
      go_loopw [10, 11] (fun v i wq => ∃ k : Nat, k + 1 ≤ N ∧ i = .int .i64 ((k : Int) + 1) ∧ OwnS wq W3.heap.size v (argsD xn words k) ∧ Below W3.heap.size W3 wq) (fun _ i _ => N + 1 - (intOf i).toNat)
      case atStart => exact ⟨0, by omega, rfl, lit_own W3 xn, (Below.refl _ _).alloc (Nat.le_refl _) _⟩
      case round =>
        obtain ⟨k, hk, rfl, ho, hb⟩ := hrel
        obtain ⟨A2, c2, rfl⟩ := own_form ho
        have hal := Lib.hid (args_len xn words k)
        by_cases hlt : k + 1 < N
        · by_cases hw : k + 1 ≤ words.length
          · obtain ⟨u, hu⟩ : ∃ u, words[k]? = some u := ⟨_, List.getElem?_eq_getElem (by omega)⟩
            obtain ⟨p, rfl, cp⟩ := rds_get ((Hr.out.below HBw.out).below hb) hu
            have hg : Hid (words.getD k ⟨#[119]⟩ = u) := by show _ = _; simp [List.getD, hu]
            clear hu
            go_wp2_with (at_builtin; refine wpList_app1 rfl (.tmp 63) (.tmp 65) elS rfl W3.heap.size _ (argsD xn words k).length (strs (argsD xn words k)) rfl ho (.string u) rfl rfl (by rw [hal.out]; unfold maxLen; omega) (by rw [hal.out]; omega) hb.size ?_; intro v' w8 o8 f8 g8)
            first
              | exact ⟨⟨k + 1, by omega, by simp, by rw [args_succ, hg.out]; exact own_snocS o8, f8.after hb (Nat.le_refl _) (fun k h => (ho.lt k h).1)⟩, by simp [intOf]; omega⟩
              | (go_simp; exact ⟨⟨k + 1, by omega, by omega, by rw [args_succ, hg.out]; exact own_snocS o8, f8.after hb (Nat.le_refl _) (fun k h => (ho.lt k h).1)⟩, by simp [intOf]; omega⟩)
          · have hg : Hid (words.getD k ⟨#[119]⟩ = ⟨#[119]⟩) := by show _ = _; rw [List.getD_eq_getElem?_getD, List.getElem?_eq_none (by omega)]; rfl
            go_wp2_with (at_builtin; refine wpList_app1 rfl (.tmp 63) (.tmp 65) elS rfl W3.heap.size _ (argsD xn words k).length (strs (argsD xn words k)) rfl ho (.string ⟨#[119]⟩) rfl rfl (by rw [hal.out]; unfold maxLen; omega) (by rw [hal.out]; omega) hb.size ?_; intro v' w8 o8 f8 g8)
            first
              | exact ⟨⟨k + 1, by omega, by simp, by rw [args_succ, hg.out]; exact own_snocS o8, f8.after hb (Nat.le_refl _) (fun k h => (ho.lt k h).1)⟩, by simp [intOf]; omega⟩
              | (go_simp; exact ⟨⟨k + 1, by omega, by omega, by rw [args_succ, hg.out]; exact own_snocS o8, f8.after hb (Nat.le_refl _) (fun k h => (ho.lt k h).1)⟩, by simp [intOf]; omega⟩)
        · have hal2 : (argsD xn words k).length = N := by rw [hal.out]; omega
          rw [hal2] at ho ⊢
          obtain ⟨g2, rfl, hg2, -⟩ := own_ne ho (by omega)
          obtain ⟨UP, hUP⟩ : ∃ UP : ByteArray, UP = ⟨(upL xn.data.toList).toArray⟩ := ⟨_, rfl⟩
          have hupl : Hid ((upL xn.data.toList).length = xn.size) := by show _ = _; rw [upL, List.length_mapIdx, hl.out]
          obtain ⟨ws, hws⟩ : ∃ ws, ws = (List.range k).map fun i => words.getD i ⟨#[119]⟩ := ⟨_, rfl⟩
          have hae : argsD xn words k = xn :: ws := by rw [hws]; rfl
          have hwl : ws.length + 1 = N := by rw [hws]; simp; omega
          have S0 : St w wr W3.heap.size g2 N c2 w1.heap.size (xn :: ws) (upL xn.data.toList) (.cells #[.string xn, .int .i64 (-(N : Int)), .bool xw, .bool xc, .int .i64 xf, .int .i64 xl, .int .i64 xs] 23 (0, 0)) := ⟨hae ▸ ho, bts_below HB.out hb, by rw [hb.block _ (by omega)]; exact Hzr.out, HBw.out.trans (hb.mono HBw.out.size)⟩
          have hsm : Hid (Small (xn :: ws)) := hae ▸ args_small Hs.out (by omega) (by omega)
          have hup : Hid (∀ w', St w w' W3.heap.size g2 N c2 w1.heap.size (xn :: ws) (upL xn.data.toList) (.cells #[.string xn, .int .i64 (-(N : Int)), .bool xw, .bool xc, .int .i64 xf, .int .i64 xl, .int .i64 xs] 23 (0, 0)) → (convert 37 9 (.slice (some ⟨w1.heap.size + 1, 0, none⟩) xn.size (grownCap wb xn.size 0 5))).run Try.prog w' = .ok (.string UP) w' ∧ w'.cell? ⟨w1.heap.size, 0, none⟩ = some (.string xn)) := fun w' h => ⟨by rw [hUP]; exact st_up h _ _ hupl.out, (st_box h).1⟩
          have hlow : Hid (∀ W, Calls Try.prog 10 #[.string UP] W fun e w' => e = .returned (.string xn) ∧ Below W.heap.size W w') := fun W => by
            have := TbH.lower_calls UP W (by rw [hUP]; show (upL xn.data.toList).toArray.size ≤ _; rw [List.size_toArray, hupl.out]; omega)
            rw [show (⟨(lowL UP.data.toList).toArray⟩ : ByteArray) = xn by rw [hUP]; exact Hf.out.2.2] at this
            exact this
          have hchk : Hid (∀ w', St w w' W3.heap.size g2 N c2 w1.heap.size (xn :: ws) (upL xn.data.toList) (.cells #[.string xn, .int .i64 (-(N : Int)), .bool xw, .bool xc, .int .i64 xf, .int .i64 xl, .int .i64 xs] 23 (0, 0)) → Calls Try.prog 15 #[.slice (some ⟨g2, 0, none⟩) N c2] w' fun e w'' => e = .returned (.string ⟨#[]⟩) ∧ Below w'.heap.size w' w'') := fun w' h => by
            have := check_calls _ _ _ _ w' (st_rd h) hsm.out
            rw [check_ok Hf.out.1 (by rw [hwl]; exact HN.out)] at this
            exact this
          have HUP := Lib.hid hUP
          have Hbw2 := Lib.hid HBw.out
          clear hUP ho hb hal hal2 hae HB Hzr HBw hws
          go_upto_region 21 with fail
          go_region_held3 (fun w' => St w w' W3.heap.size g2 N c2 w1.heap.size (xn :: ws) (upL xn.data.toList) (.cells #[.string xn, .int .i64 (-(N : Int)), .bool xw, .bool xc, .int .i64 xf, .int .i64 xl, .int .i64 xs] 23 (0, 0)) ∧ (convert 37 9 (.slice (some ⟨w1.heap.size + 1, 0, none⟩) xn.size (grownCap wb xn.size 0 5))).run Try.prog w' = .ok (.string UP) w' ∧ w'.cell? ⟨w1.heap.size, 0, none⟩ = some (.string xn))
            (first
              | exact ⟨st_drew S0, hup.out _ (st_drew S0)⟩
              | exact ⟨st_below (And.left (by assumption)) (by assumption), hup.out _ (st_below (And.left (by assumption)) (by assumption))⟩
              | exact ⟨st_drawn (And.left (by assumption)) _, hup.out _ (st_drawn (And.left (by assumption)) _)⟩
              | assumption)
            (first
              | (go_at_call 15; refine (hchk.out _ (And.left (by assumption))).mono ?_; rintro e w5 ⟨rfl, hb5⟩)
              | (go_at_call 10; refine (hlow.out _).mono ?_; rintro e w6 ⟨rfl, hb6⟩))
          all_goals (
            obtain ⟨S1, -, -⟩ := ‹St w w6 W3.heap.size g2 N c2 w1.heap.size (xn :: ws) (upL xn.data.toList) (.cells #[.string xn, .int .i64 (-(N : Int)), .bool xw, .bool xc, .int .i64 xf, .int .i64 xl, .int .i64 xs] 23 (0, 0)) ∧ _›
            have hkeys := Lib.hid (keys_calls _ _ _ _ _ (st_rd S1) hsm.out)
            obtain ⟨K, hK⟩ : ∃ K, K = keysD (xn :: ws) := ⟨_, rfl⟩
            rw [← hK] at hkeys
            have hKl : K.length ≤ N := by rw [hK]; have := keys_len (xn :: ws); simp only [List.length_cons] at this; omega
            have hKp : 0 < K.length ↔ 0 < xf := by rw [hK]; exact keys_pos Hm.out Hf.out.1 (by rw [hwl]; exact HN.out)
            have hKm : Hid (∀ y ∈ K, y ∈ ws) := by rw [hK]; exact keys_mem Hm.out Hf.out.1 (by rw [hwl]; exact HN.out)
            have HK := Lib.hid hK
            clear hK hb5 hb6 hchk hlow S0
            go_wp2_with fail
            refine hkeys.out.mono ?_
            rintro e w7 ⟨v, rfl, o7, b7⟩
            obtain ⟨A3, c3, rfl⟩ := own_form o7
            have S7 := st_below S1 b7
            have z4 := (st_box S7).2
            have hg2l : g2 < w6.heap.size := (S1.own.lt g2 rfl).2
            have rK := rds_own o7
            have hcK := rK.cap
            have hbK : c3 ≤ 9223372036854775807 := rK.big
            have hc2 : N ≤ c2 := (st_rd S7).cap
            have hb2 : c2 ≤ 9223372036854775807 := (st_rd S7).big
            clear hkeys S1 b7
            have hgt1 : decide ((0 : Int) < (K.length : Int)) = decide (0 < xf) := by
              by_cases hp : 0 < xf
              · rw [decide_eq_true hp, decide_eq_true (by have := hKp.2 hp; omega)]
              · rw [decide_eq_false hp, decide_eq_false (fun h => hp (hKp.1 (by omega)))]
            have hgt2 : decide (0 < K.length) = decide (0 < xf) := by
              by_cases hp : 0 < xf
              · rw [decide_eq_true hp, decide_eq_true (hKp.2 hp)]
              · rw [decide_eq_false hp, decide_eq_false (fun h => hp (hKp.1 h))]
            clear hKp
            go_wp2_with fail
            clear hgt1 hgt2
            go_loopw [14] (fun i wq => ∃ j : Nat, j ≤ K.length ∧ i = .int .i64 j ∧ ∃ nd, wq = w7.drewN nd) (fun i _ => K.length - (intOf i).toNat)
            case atStart => exact ⟨0, Nat.zero_le _, rfl, 0, rfl⟩
            case round =>
              obtain ⟨j, hj, rfl, nd, rfl⟩ := hrel
              by_cases hlt : j < K.length
              · obtain ⟨y, hy⟩ : ∃ y, K[j]? = some y := ⟨_, List.getElem?_eq_getElem hlt⟩
                obtain ⟨g3, rfl, hg3, hce⟩ := own_ne o7 (by omega)
                have cy := (hce j y hy).1
                have hmem := hKm.out y (List.mem_of_getElem? hy)
                have hN2 : 2 ≤ N := by
                  have : 0 < ws.length := List.length_pos_of_mem hmem
                  omega
                have hrd : Hid (∀ w', (∃ nd, w' = w7.drewN nd) → RdS w' (some ⟨g2, 1, none⟩) (N - 1) (c2 - 1) ws) := by
                  rintro w' ⟨nd, rfl⟩
                  have := (st_rd (st_drawn S7 nd)).drop (k := 1) (by omega)
                  rw [if_neg (by omega)] at this
                  exact this
                have hNi : (1 : Int) ≤ (N : Int) := by omega
                have hc1 : ¬ c2 = 1 := by omega
                have HM := Lib.hid hmem
                clear hy hmem hce
                go_upto_region 29 with fail
                go_region_held3 (fun w' => (∃ nd, w' = w7.drewN nd) ∧ w'.cell? ⟨g3, j, none⟩ = some (.string y))
                  (first
                    | exact ⟨⟨nd + 1, rfl⟩, cy⟩
                    | assumption
                    | exact dr_next (by assumption) _
                    | exact dr_next (by assumption) 1)
                  (first
                    | (go_at_call 20; refine (has_calls (some ⟨g2, 1, none⟩) (N - 1) (c2 - 1) ws y _ (hrd.out _ (And.left (by assumption))) HM.out).mono ?_; rintro e w9 ⟨rfl, rfl⟩))
                all_goals (
                  go_wp2_with fail
                  go_simp
                  first
                    | exact ⟨⟨j + 1, by omega, by omega⟩, by simp [intOf]; omega⟩
                    | exact ⟨⟨j + 1, by omega, by omega, nd + 1, by first | rfl | trivial⟩, by simp [intOf]; omega⟩)
              · obtain rfl : j = K.length := by omega
                have Sx := st_drawn S7 nd
                have hcu := (hup.out _ Sx).1
                obtain ⟨g2', e2, -, hce⟩ := own_ne Sx.own (by omega)
                have e3 : g2' = g2 := by injection e2 with e2; injection e2 with e2; exact e2.symm
                subst e3
                obtain ⟨cy, fy⟩ := hce 0 xn rfl
                have hwg : w.heap.size ≤ g2' := by have := Hbw2.out.size; omega
                have S8 := st_put Sx (by omega) hwg UP
                have r8 := rk_put (rK.drawn nd) (u := UP) (g2 := g2') (fun ad h => by subst h; have := (o7.lt ad.block rfl).1; omega)
                obtain ⟨W8, hW8⟩ : ∃ W8, W8 = (w7.drewN nd).setCell ⟨g2', 0, none⟩ (.string UP) := ⟨_, rfl⟩
                rw [← hW8] at S8 r8
                clear e2 hce Sx S7 rK o7 z4 hup
                have S9 := And.intro S8 (And.intro r8 (st_box S8).1)
                have hk1 : Hid (∀ w', St w w' W3.heap.size g2' N c2 w1.heap.size (UP :: ws) (upL xn.data.toList) (.cells #[.string xn, .int .i64 (-(N : Int)), .bool xw, .bool xc, .int .i64 xf, .int .i64 xl, .int .i64 xs] 23 (0, 0)) → Calls Try.prog 17 #[.slice (some ⟨g2', 0, none⟩) N c2] w' fun e w'' => ∃ v, e = .returned v ∧ OwnS w'' w'.heap.size v K ∧ Below w'.heap.size w' w'') := fun w' h => by
                  have := keys_calls _ _ _ _ w' (st_rd h) (small_put hsm.out (by rw [HUP.out]; show (upL xn.data.toList).toArray.size ≤ _; rw [List.size_toArray, hupl.out]; omega))
                  rw [keys_same Hm.out Hf.out.1 (by rw [hwl]; exact HN.out) (by rw [HUP.out]; exact Hf.out.2.1), ← HK.out] at this
                  exact this
                have hc1 : Hid (∀ w', St w w' W3.heap.size g2' N c2 w1.heap.size (UP :: ws) (upL xn.data.toList) (.cells #[.string xn, .int .i64 (-(N : Int)), .bool xw, .bool xc, .int .i64 xf, .int .i64 xl, .int .i64 xs] 23 (0, 0)) → Calls Try.prog 15 #[.slice (some ⟨g2', 0, none⟩) N c2] w' fun e w'' => e = .returned (.string ⟨#[]⟩) ∧ Below w'.heap.size w' w'') := fun w' h => by
                  have := check_calls _ _ _ _ w' (st_rd h) (small_put hsm.out (by rw [HUP.out]; show (upL xn.data.toList).toArray.size ≤ _; rw [List.size_toArray, hupl.out]; omega))
                  rw [check_ok (by rw [HUP.out]; exact Hf.out.2.1) (by rw [hwl]; exact HN.out)] at this
                  exact this
                have hc2 : Hid (∀ w', Calls Try.prog 15 #[.slice none 0 0] w' fun e w'' => e = .returned (.string ⟨#[69, 82, 82, 32, 117, 110, 107, 110, 111, 119, 110, 32, 99, 111, 109, 109, 97, 110, 100, 32]⟩) ∧ Below w'.heap.size w' w'') := fun w' => (check_none none 0 w').mono (by rintro e w'' ⟨rfl, rfl⟩; exact ⟨rfl, Below.refl _ _⟩)
                rcases (show N = 1 ∨ 2 ≤ N by omega) with h1N | h2N
                · have hNi : (N : Int) = 1 := by omega
                  clear h1N
                  go_upto_region 32 with fail
                  rw [← hW8]
                  clear hW8 S8 r8
                  refine wp_region_held_drew (S := fun w' => St w w' W3.heap.size g2' N c2 w1.heap.size (UP :: ws) (upL xn.data.toList) (.cells #[.string xn, .int .i64 (-(N : Int)), .bool xw, .bool xc, .int .i64 xf, .int .i64 xl, .int .i64 xs] 23 (0, 0)) ∧ RdS w' A3 K.length c3 K ∧ w'.cell? ⟨w1.heap.size, 0, none⟩ = some (.string xn)) (by kernel_rfl) (s9_drew S9) (fun hHeld => ?_)
                  refine wpAnyH_take (i := 0) (v := ?_) rfl (by kernel_rfl) (by kernel_rfl) (by kernel_rfl) (fun _ _ _ h => h) (Or.inl ⟨by rfl, ?_⟩) (by assumption) ?_
                  rotate_left
                  · intro wz hSw
                    (try dsimp only at hSw)
                    first
                      | (go_simp; done)
                      | (go_simp; with_reducible rfl)
                  try simp only [Act.put, List.getElem_toArray, List.getElem_cons_zero, List.getElem_cons_succ, List.setIfInBounds_toArray, List.set_cons_zero, List.set_cons_succ]
                  refine wpAnyH_ready (rs := [1]) (by kernel_rfl) (by simp) ?_
                  refine AllReadyH.cons rfl (fun K32 hK32 => ?_) AllReadyH.nil
                  go_simp
                  refine (hc1.out _ ?_).mono ?_
                  · exact (s9_drew S9).1
                  rintro e wa ⟨rfl, ba⟩
                  have Sa := s9_below ba (s9_drew S9)
                  refine hK32.out _ _ (Sa) (fun hHeld => ?_)
                  clear hK32 K32
                  try simp only [Act.put, List.getElem_toArray, List.getElem_cons_zero, List.getElem_cons_succ, List.setIfInBounds_toArray, List.set_cons_zero, List.set_cons_succ]
                  refine wpAnyH_take (i := 2) (v := ?_) rfl (by kernel_rfl) (by kernel_rfl) (by kernel_rfl) (fun _ _ _ h => h) (Or.inl ⟨by rfl, ?_⟩) (by assumption) ?_
                  rotate_left
                  · intro wz hSw
                    (try dsimp only at hSw)
                    first
                      | (go_simp; done)
                      | (go_simp; with_reducible rfl)
                  try simp only [Act.put, List.getElem_toArray, List.getElem_cons_zero, List.getElem_cons_succ, List.setIfInBounds_toArray, List.set_cons_zero, List.set_cons_succ]
                  refine wpAnyH_take (i := 3) (v := ?_) rfl (by kernel_rfl) (by kernel_rfl) (by kernel_rfl) (fun _ _ _ h => h) (Or.inl ⟨by rfl, ?_⟩) (by assumption) ?_
                  rotate_left
                  · intro wz hSw
                    (try dsimp only at hSw)
                    first
                      | (go_simp; done)
                      | (go_simp; with_reducible rfl)
                  try simp only [Act.put, List.getElem_toArray, List.getElem_cons_zero, List.getElem_cons_succ, List.setIfInBounds_toArray, List.set_cons_zero, List.set_cons_succ]
                  refine wpAnyH_take (i := 4) (v := ?_) rfl (by kernel_rfl) (by kernel_rfl) (by kernel_rfl) (fun _ _ _ h => h) (Or.inl ⟨by rfl, ?_⟩) (by assumption) ?_
                  rotate_left
                  · intro wz hSw
                    (try dsimp only at hSw)
                    first
                      | (go_simp; done)
                      | (go_simp; with_reducible rfl)
                  try simp only [Act.put, List.getElem_toArray, List.getElem_cons_zero, List.getElem_cons_succ, List.setIfInBounds_toArray, List.set_cons_zero, List.set_cons_succ]
                  refine wpAnyH_take (i := 6) (v := ?_) rfl (by kernel_rfl) (by kernel_rfl) (by kernel_rfl) (fun _ _ _ h => h) (Or.inl ⟨by rfl, ?_⟩) (by assumption) ?_
                  rotate_left
                  · intro wz hSw
                    (try dsimp only at hSw)
                    first
                      | (go_simp; done)
                      | (go_simp; with_reducible rfl)
                  try simp only [Act.put, List.getElem_toArray, List.getElem_cons_zero, List.getElem_cons_succ, List.setIfInBounds_toArray, List.set_cons_zero, List.set_cons_succ]
                  refine wpAnyH_ready (rs := [5]) (by kernel_rfl) (by simp) ?_
                  refine AllReadyH.cons rfl (fun K32 hK32 => ?_) AllReadyH.nil
                  go_simp
                  refine (hk1.out _ ?_).mono ?_
                  · exact Sa.1
                  rintro e wk ⟨vk, rfl, ok, bk⟩
                  obtain ⟨A4, c4, rfl⟩ := own_form ok
                  have Sk := s9_below bk Sa
                  refine hK32.out _ _ (Sk) (fun hHeld => ?_)
                  clear hK32 K32
                  try simp only [Act.put, List.getElem_toArray, List.getElem_cons_zero, List.getElem_cons_succ, List.setIfInBounds_toArray, List.set_cons_zero, List.set_cons_succ]
                  refine wpAnyH_ready (rs := [7]) (by kernel_rfl) (by simp) ?_
                  refine AllReadyH.cons rfl (fun K32 hK32 => ?_) AllReadyH.nil
                  go_simp
                  refine (sameS_calls A4 K.length c4 K A3 K.length c3 K _ ?_ ?_).mono ?_
                  · exact rds_own ok
                  · exact Sk.2.1
                  rintro e wq ⟨rfl, nds, rfl⟩
                  have Sq := s9_drawn Sk nds
                  rw [decide_eq_true rfl]
                  refine hK32.out _ _ (Sq) (fun hHeld => ?_)
                  clear hK32 K32
                  try simp only [Act.put, List.getElem_toArray, List.getElem_cons_zero, List.getElem_cons_succ, List.setIfInBounds_toArray, List.set_cons_zero, List.set_cons_succ]
                  refine wpAnyH_take (i := 8) (v := ?_) rfl (by kernel_rfl) (by kernel_rfl) (by kernel_rfl) (fun _ _ _ h => h) (Or.inl ⟨by rfl, ?_⟩) (by assumption) ?_
                  rotate_left
                  · intro wz hSw
                    (try dsimp only at hSw)
                    first
                      | (go_simp; done)
                      | (go_simp; with_reducible rfl)
                  try simp only [Act.put, List.getElem_toArray, List.getElem_cons_zero, List.getElem_cons_succ, List.setIfInBounds_toArray, List.set_cons_zero, List.set_cons_succ]
                  refine wpAnyH_take (i := 9) (v := ?_) rfl (by kernel_rfl) (by kernel_rfl) (by kernel_rfl) (fun _ _ _ h => h) (Or.inl ⟨by rfl, ?_⟩) (by assumption) ?_
                  rotate_left
                  · intro wz hSw
                    (try dsimp only at hSw)
                    first
                      | (go_simp; done)
                      | (go_simp; with_reducible rfl)
                  try simp only [Act.put, List.getElem_toArray, List.getElem_cons_zero, List.getElem_cons_succ, List.setIfInBounds_toArray, List.set_cons_zero, List.set_cons_succ]
                  refine wpAnyH_take (i := 10) (v := ?_) rfl (by kernel_rfl) (by kernel_rfl) (by kernel_rfl) (fun _ _ _ h => h) (Or.inl ⟨by rfl, ?_⟩) (by assumption) ?_
                  rotate_left
                  · intro wz hSw
                    (try dsimp only at hSw)
                    first
                      | (go_simp; done)
                      | (go_simp; with_reducible rfl)
                  try simp only [Act.put, List.getElem_toArray, List.getElem_cons_zero, List.getElem_cons_succ, List.setIfInBounds_toArray, List.set_cons_zero, List.set_cons_succ]
                  refine wpAnyH_take (i := 11) (v := ?_) rfl (by kernel_rfl) (by kernel_rfl) (by kernel_rfl) (fun _ _ _ h => h) (Or.inl ⟨by rfl, ?_⟩) (by assumption) ?_
                  rotate_left
                  · intro wz hSw
                    (try dsimp only at hSw)
                    first
                      | (go_simp; done)
                      | (go_simp; with_reducible rfl)
                  try simp only [Act.put, List.getElem_toArray, List.getElem_cons_zero, List.getElem_cons_succ, List.setIfInBounds_toArray, List.set_cons_zero, List.set_cons_succ]
                  refine wpAnyH_take (i := 12) (v := ?_) rfl (by kernel_rfl) (by kernel_rfl) (by kernel_rfl) (fun _ _ _ h => h) (Or.inl ⟨by rfl, ?_⟩) (by assumption) ?_
                  rotate_left
                  · intro wz hSw
                    (try dsimp only at hSw)
                    first
                      | (go_simp; done)
                      | (go_simp; with_reducible rfl)
                  try simp only [Act.put, List.getElem_toArray, List.getElem_cons_zero, List.getElem_cons_succ, List.setIfInBounds_toArray, List.set_cons_zero, List.set_cons_succ]
                  refine wpAnyH_ready (rs := [13]) (by kernel_rfl) (by simp) ?_
                  refine AllReadyH.cons rfl (fun K32 hK32 => ?_) AllReadyH.nil
                  go_simp
                  refine (hc2.out _).mono ?_
                  rintro e wn ⟨rfl, bn⟩
                  have Sn := s9_below bn Sq
                  refine hK32.out _ _ (Sn) (fun hHeld => ?_)
                  clear hK32 K32
                  try simp only [Act.put, List.getElem_toArray, List.getElem_cons_zero, List.getElem_cons_succ, List.setIfInBounds_toArray, List.set_cons_zero, List.set_cons_succ]
                  refine wpAnyH_take (i := 14) (v := ?_) rfl (by kernel_rfl) (by kernel_rfl) (by kernel_rfl) (fun _ _ _ h => h) (Or.inl ⟨by rfl, ?_⟩) (by assumption) ?_
                  rotate_left
                  · intro wz hSw
                    (try dsimp only at hSw)
                    first
                      | (go_simp; done)
                      | (go_simp; with_reducible rfl)
                  try simp only [Act.put, List.getElem_toArray, List.getElem_cons_zero, List.getElem_cons_succ, List.setIfInBounds_toArray, List.set_cons_zero, List.set_cons_succ]
                  refine wpAnyH_take (i := 15) (v := ?_) rfl (by kernel_rfl) (by kernel_rfl) (by kernel_rfl) (fun _ _ _ h => h) (Or.inl ⟨by rfl, ?_⟩) (by assumption) ?_
                  rotate_left
                  · intro wz hSw
                    (try dsimp only at hSw)
                    first
                      | (go_simp; done)
                      | (go_simp; with_reducible rfl)
                  try simp only [Act.put, List.getElem_toArray, List.getElem_cons_zero, List.getElem_cons_succ, List.setIfInBounds_toArray, List.set_cons_zero, List.set_cons_succ]
                  refine wpAnyH_take (i := 16) (v := ?_) rfl (by kernel_rfl) (by kernel_rfl) (by kernel_rfl) (fun _ _ _ h => h) (Or.inl ⟨by rfl, ?_⟩) (by assumption) ?_
                  rotate_left
                  · intro wz hSw
                    (try dsimp only at hSw)
                    first
                      | (go_simp; done)
                      | (go_simp; with_reducible rfl)
                  try simp only [Act.put, List.getElem_toArray, List.getElem_cons_zero, List.getElem_cons_succ, List.setIfInBounds_toArray, List.set_cons_zero, List.set_cons_succ]
                  refine wpAnyH_take (i := 17) (v := undef) rfl (by kernel_rfl) (by kernel_rfl) (by kernel_rfl) (fun _ _ _ h => h) (Or.inr ⟨by rfl, rfl⟩) (by assumption) ?_
                  try simp only [Act.put, List.getElem_toArray, List.getElem_cons_zero, List.getElem_cons_succ, List.setIfInBounds_toArray, List.set_cons_zero, List.set_cons_succ]
                  refine wpAnyH_take (i := 18) (v := undef) rfl (by kernel_rfl) (by kernel_rfl) (by kernel_rfl) (fun _ _ _ h => h) (Or.inr ⟨by rfl, rfl⟩) (by assumption) ?_
                  try simp only [Act.put, List.getElem_toArray, List.getElem_cons_zero, List.getElem_cons_succ, List.setIfInBounds_toArray, List.set_cons_zero, List.set_cons_succ]
                  refine wpAnyH_take (i := 19) (v := undef) rfl (by kernel_rfl) (by kernel_rfl) (by kernel_rfl) (fun _ _ _ h => h) (Or.inr ⟨by rfl, rfl⟩) (by assumption) ?_
                  try simp only [Act.put, List.getElem_toArray, List.getElem_cons_zero, List.getElem_cons_succ, List.setIfInBounds_toArray, List.set_cons_zero, List.set_cons_succ]
                  refine wpAnyH_take (i := 20) (v := undef) rfl (by kernel_rfl) (by kernel_rfl) (by kernel_rfl) (fun _ _ _ h => h) (Or.inr ⟨by rfl, rfl⟩) (by assumption) ?_
                  try simp only [Act.put, List.getElem_toArray, List.getElem_cons_zero, List.getElem_cons_succ, List.setIfInBounds_toArray, List.set_cons_zero, List.set_cons_succ]
                  refine wpAnyH_take (i := 21) (v := undef) rfl (by kernel_rfl) (by kernel_rfl) (by kernel_rfl) (fun _ _ _ h => h) (Or.inr ⟨by rfl, rfl⟩) (by assumption) ?_
                  try simp only [Act.put, List.getElem_toArray, List.getElem_cons_zero, List.getElem_cons_succ, List.setIfInBounds_toArray, List.set_cons_zero, List.set_cons_succ]
                  refine wpAnyH_take (i := 22) (v := undef) rfl (by kernel_rfl) (by kernel_rfl) (by kernel_rfl) (fun _ _ _ h => h) (Or.inr ⟨by rfl, rfl⟩) (by assumption) ?_
                  try simp only [Act.put, List.getElem_toArray, List.getElem_cons_zero, List.getElem_cons_succ, List.setIfInBounds_toArray, List.set_cons_zero, List.set_cons_succ]
                  refine wpAnyH_take (i := 23) (v := undef) rfl (by kernel_rfl) (by kernel_rfl) (by kernel_rfl) (fun _ _ _ h => h) (Or.inr ⟨by rfl, rfl⟩) (by assumption) ?_
                  try simp only [Act.put, List.getElem_toArray, List.getElem_cons_zero, List.getElem_cons_succ, List.setIfInBounds_toArray, List.set_cons_zero, List.set_cons_succ]
                  refine wpAnyH_take (i := 24) (v := undef) rfl (by kernel_rfl) (by kernel_rfl) (by kernel_rfl) (fun _ _ _ h => h) (Or.inr ⟨by rfl, rfl⟩) (by assumption) ?_
                  try simp only [Act.put, List.getElem_toArray, List.getElem_cons_zero, List.getElem_cons_succ, List.setIfInBounds_toArray, List.set_cons_zero, List.set_cons_succ]
                  refine wpAnyH_take (i := 25) (v := undef) rfl (by kernel_rfl) (by kernel_rfl) (by kernel_rfl) (fun _ _ _ h => h) (Or.inr ⟨by rfl, rfl⟩) (by assumption) ?_
                  try simp only [Act.put, List.getElem_toArray, List.getElem_cons_zero, List.getElem_cons_succ, List.setIfInBounds_toArray, List.set_cons_zero, List.set_cons_succ]
                  refine wpAnyH_take (i := 26) (v := undef) rfl (by kernel_rfl) (by kernel_rfl) (by kernel_rfl) (fun _ _ _ h => h) (Or.inr ⟨by rfl, rfl⟩) (by assumption) ?_
                  try simp only [Act.put, List.getElem_toArray, List.getElem_cons_zero, List.getElem_cons_succ, List.setIfInBounds_toArray, List.set_cons_zero, List.set_cons_succ]
                  refine wpAnyH_take (i := 27) (v := undef) rfl (by kernel_rfl) (by kernel_rfl) (by kernel_rfl) (fun _ _ _ h => h) (Or.inr ⟨by rfl, rfl⟩) (by assumption) ?_
                  try simp only [Act.put, List.getElem_toArray, List.getElem_cons_zero, List.getElem_cons_succ, List.setIfInBounds_toArray, List.set_cons_zero, List.set_cons_succ]
                  refine wpAnyH_take (i := 28) (v := undef) rfl (by kernel_rfl) (by kernel_rfl) (by kernel_rfl) (fun _ _ _ h => h) (Or.inr ⟨by rfl, rfl⟩) (by assumption) ?_
                  try simp only [Act.put, List.getElem_toArray, List.getElem_cons_zero, List.getElem_cons_succ, List.setIfInBounds_toArray, List.set_cons_zero, List.set_cons_succ]
                  refine wpAnyH_take (i := 29) (v := undef) rfl (by kernel_rfl) (by kernel_rfl) (by kernel_rfl) (fun _ _ _ h => h) (Or.inr ⟨by rfl, rfl⟩) (by assumption) ?_
                  try simp only [Act.put, List.getElem_toArray, List.getElem_cons_zero, List.getElem_cons_succ, List.setIfInBounds_toArray, List.set_cons_zero, List.set_cons_succ]
                  refine wpAnyH_take (i := 30) (v := undef) rfl (by kernel_rfl) (by kernel_rfl) (by kernel_rfl) (fun _ _ _ h => h) (Or.inr ⟨by rfl, rfl⟩) (by assumption) ?_
                  try simp only [Act.put, List.getElem_toArray, List.getElem_cons_zero, List.getElem_cons_succ, List.setIfInBounds_toArray, List.set_cons_zero, List.set_cons_succ]
                  refine wpAnyH_take (i := 31) (v := undef) rfl (by kernel_rfl) (by kernel_rfl) (by kernel_rfl) (fun _ _ _ h => h) (Or.inr ⟨by rfl, rfl⟩) (by assumption) ?_
                  try simp only [Act.put, List.getElem_toArray, List.getElem_cons_zero, List.getElem_cons_succ, List.setIfInBounds_toArray, List.set_cons_zero, List.set_cons_succ]
                  refine wpAnyH_take (i := 32) (v := undef) rfl (by kernel_rfl) (by kernel_rfl) (by kernel_rfl) (fun _ _ _ h => h) (Or.inr ⟨by rfl, rfl⟩) (by assumption) ?_
                  try simp only [Act.put, List.getElem_toArray, List.getElem_cons_zero, List.getElem_cons_succ, List.setIfInBounds_toArray, List.set_cons_zero, List.set_cons_succ]
                  refine wpAnyH_take (i := 33) (v := undef) rfl (by kernel_rfl) (by kernel_rfl) (by kernel_rfl) (fun _ _ _ h => h) (Or.inr ⟨by rfl, rfl⟩) (by assumption) ?_
                  try simp only [Act.put, List.getElem_toArray, List.getElem_cons_zero, List.getElem_cons_succ, List.setIfInBounds_toArray, List.set_cons_zero, List.set_cons_succ]
                  refine wpAnyH_take (i := 34) (v := undef) rfl (by kernel_rfl) (by kernel_rfl) (by kernel_rfl) (fun _ _ _ h => h) (Or.inr ⟨by rfl, rfl⟩) (by assumption) ?_
                  try simp only [Act.put, List.getElem_toArray, List.getElem_cons_zero, List.getElem_cons_succ, List.setIfInBounds_toArray, List.set_cons_zero, List.set_cons_succ]
                  refine wpAnyH_take (i := 35) (v := undef) rfl (by kernel_rfl) (by kernel_rfl) (by kernel_rfl) (fun _ _ _ h => h) (Or.inr ⟨by rfl, rfl⟩) (by assumption) ?_
                  try simp only [Act.put, List.getElem_toArray, List.getElem_cons_zero, List.getElem_cons_succ, List.setIfInBounds_toArray, List.set_cons_zero, List.set_cons_succ]
                  refine wpAnyH_take (i := 36) (v := undef) rfl (by kernel_rfl) (by kernel_rfl) (by kernel_rfl) (fun _ _ _ h => h) (Or.inr ⟨by rfl, rfl⟩) (by assumption) ?_
                  try simp only [Act.put, List.getElem_toArray, List.getElem_cons_zero, List.getElem_cons_succ, List.setIfInBounds_toArray, List.set_cons_zero, List.set_cons_succ]
                  refine wpAnyH_take (i := 37) (v := undef) rfl (by kernel_rfl) (by kernel_rfl) (by kernel_rfl) (fun _ _ _ h => h) (Or.inr ⟨by rfl, rfl⟩) (by assumption) ?_
                  try simp only [Act.put, List.getElem_toArray, List.getElem_cons_zero, List.getElem_cons_succ, List.setIfInBounds_toArray, List.set_cons_zero, List.set_cons_succ]
                  refine wpAnyH_take (i := 38) (v := undef) rfl (by kernel_rfl) (by kernel_rfl) (by kernel_rfl) (fun _ _ _ h => h) (Or.inr ⟨by rfl, rfl⟩) (by assumption) ?_
                  try simp only [Act.put, List.getElem_toArray, List.getElem_cons_zero, List.getElem_cons_succ, List.setIfInBounds_toArray, List.set_cons_zero, List.set_cons_succ]
                  refine wpAnyH_take (i := 39) (v := ?_) rfl (by kernel_rfl) (by kernel_rfl) (by kernel_rfl) (fun _ _ _ h => h) (Or.inl ⟨by rfl, ?_⟩) (by assumption) ?_
                  rotate_left
                  · intro wz hSw
                    (try dsimp only at hSw)
                    first
                      | (go_simp; done)
                      | (go_simp; with_reducible rfl)
                  try simp only [Act.put, List.getElem_toArray, List.getElem_cons_zero, List.getElem_cons_succ, List.setIfInBounds_toArray, List.set_cons_zero, List.set_cons_succ]
                  refine wpAnyH_take (i := 40) (v := ?_) rfl (by kernel_rfl) (by kernel_rfl) (by kernel_rfl) (fun _ _ _ h => h) (Or.inl ⟨by rfl, ?_⟩) (by assumption) ?_
                  rotate_left
                  · intro wz hSw
                    (try dsimp only at hSw)
                    first
                      | (go_simp; done)
                      | (go_simp; with_reducible rfl)
                  try simp only [Act.put, List.getElem_toArray, List.getElem_cons_zero, List.getElem_cons_succ, List.setIfInBounds_toArray, List.set_cons_zero, List.set_cons_succ]
                  refine wpAnyH_take (i := 41) (v := ?_) rfl (by kernel_rfl) (by kernel_rfl) (by kernel_rfl) (fun _ _ _ h => h) (Or.inl ⟨by rfl, ?_⟩) (by assumption) ?_
                  rotate_left
                  · intro wz hSw
                    (try dsimp only at hSw)
                    first
                      | (go_simp; done)
                      | (go_simp; with_reducible rfl)
                  try simp only [Act.put, List.getElem_toArray, List.getElem_cons_zero, List.getElem_cons_succ, List.setIfInBounds_toArray, List.set_cons_zero, List.set_cons_succ]
                  refine wpAnyH_done (by kernel_rfl) ?_ _
                  go_wp2_with fail
                  go_ret
                  exact ⟨rfl, Sn.1.bel⟩
                · obtain ⟨M, hM⟩ : ∃ M, N = M + 1 := ⟨N - 1, by omega⟩
                  obtain ⟨ws', tt, hwt⟩ : ∃ ws' tt, ws = ws' ++ [tt] := by
                    rcases List.eq_nil_or_concat ws with h | ⟨a, b, h⟩
                    · rw [h] at hwl; simp at hwl; omega
                    · exact ⟨a, b, by rw [h, List.concat_eq_append]⟩
                  have hwl2 : ws'.length + 2 = N := by rw [hwt] at hwl; simp at hwl; omega
                  have htk : Hid (∀ w', St w w' W3.heap.size g2' N c2 w1.heap.size (UP :: ws) (upL xn.data.toList) (.cells #[.string xn, .int .i64 (-(N : Int)), .bool xw, .bool xc, .int .i64 xf, .int .i64 xl, .int .i64 xs] 23 (0, 0)) → RdS w' (some ⟨g2', 0, none⟩) M c2 (UP :: ws')) := fun w' h => by
                    have h := st_rd h
                    rw [hwt, ← List.cons_append] at h
                    have := rds_take h
                    rw [show (UP :: ws').length = M by simp; omega] at this
                    exact this
                  have hsm2 : Small (UP :: ws') := by
                    have h := small_put hsm.out (u := UP) (by rw [HUP.out]; show (upL xn.data.toList).toArray.size ≤ _; rw [List.size_toArray, hupl.out]; omega)
                    refine ⟨by simp; omega, fun x hx => h.2 x ?_⟩
                    rw [hwt]
                    rcases List.mem_cons.1 hx with rfl | hx
                    · simp
                    · simp [hx]
                  have hc3 : Hid (∀ w', St w w' W3.heap.size g2' N c2 w1.heap.size (UP :: ws) (upL xn.data.toList) (.cells #[.string xn, .int .i64 (-(N : Int)), .bool xw, .bool xc, .int .i64 xf, .int .i64 xl, .int .i64 xs] 23 (0, 0)) → Calls Try.prog 15 #[.slice (some ⟨g2', 0, none⟩) M c2] w' fun e w'' => e = .returned (.string (⟨#[69, 82, 82, 32, 119, 114, 111, 110, 103, 32, 110, 117, 109, 98, 101, 114, 32, 111, 102, 32, 97, 114, 103, 117, 109, 101, 110, 116, 115, 58, 32]⟩ ++ xn)) ∧ Below w'.heap.size w' w'') := fun w' h => by
                    have := check_calls _ _ _ _ w' (htk.out w' h) hsm2
                    rw [check_less (by rw [HUP.out]; exact Hf.out.2.1) (by rw [hwl2]; exact HN.out)] at this
                    exact this
                  have hk3 : Hid (∀ w', St w w' W3.heap.size g2' N c2 w1.heap.size (UP :: ws) (upL xn.data.toList) (.cells #[.string xn, .int .i64 (-(N : Int)), .bool xw, .bool xc, .int .i64 xf, .int .i64 xl, .int .i64 xs] 23 (0, 0)) → Calls Try.prog 17 #[.slice (some ⟨g2', 0, none⟩) M c2] w' fun e w'' => ∃ v, e = .returned v ∧ OwnS w'' w'.heap.size v [] ∧ Below w'.heap.size w' w'') := fun w' h => by
                    have := keys_calls _ _ _ _ w' (htk.out w' h) hsm2
                    rw [keys_less (by rw [HUP.out]; exact Hf.out.2.1) (by rw [hwl2]; exact HN.out)] at this
                    exact this
                  have hNi : (1 : Int) < (N : Int) := by omega
                  have hNj : ¬ (N : Int) = 1 := by omega
                  have hNM : (N : Int) - 1 = (M : Int) := by omega
                  have hMc : (M : Int) ≤ (c2 : Int) := by omega
                  have hM0 : (0 : Int) ≤ (M : Int) := by omega
                  have hMw : IntKind.i64.wrap (M : Int) = (M : Int) := by rw [IntKind.wrap_i64]; omega
                  have hxl : ¬ 9223372036854775807 < 31 + xn.size := by omega
                  have hNb : ((N : Int) == 1) = false := by rw [beq_eq_false_iff_ne]; exact hNj
                  have hNe : decide ((1 : Int) < (N : Int)) = true := decide_eq_true hNi
                  have hNd : decide ((N : Int) = 1) = false := decide_eq_false hNj
                  clear hM hwt
                  go_upto_region 32 with fail
                  rw [← hW8]
                  clear hW8 S8 r8
                  refine wp_region_held_drew (S := fun w' => St w w' W3.heap.size g2' N c2 w1.heap.size (UP :: ws) (upL xn.data.toList) (.cells #[.string xn, .int .i64 (-(N : Int)), .bool xw, .bool xc, .int .i64 xf, .int .i64 xl, .int .i64 xs] 23 (0, 0)) ∧ RdS w' A3 K.length c3 K ∧ w'.cell? ⟨w1.heap.size, 0, none⟩ = some (.string xn)) (by kernel_rfl) (s9_drew S9) (fun hHeld => ?_)
                  refine wpAnyH_take (i := 0) (v := ?_) rfl (by kernel_rfl) (by kernel_rfl) (by kernel_rfl) (fun _ _ _ h => h) (Or.inl ⟨by rfl, ?_⟩) (by assumption) ?_
                  rotate_left
                  · intro wz hSw
                    (try dsimp only at hSw)
                    first
                      | (go_simp; done)
                      | (go_simp; with_reducible rfl)
                  try simp only [Act.put, List.getElem_toArray, List.getElem_cons_zero, List.getElem_cons_succ, List.setIfInBounds_toArray, List.set_cons_zero, List.set_cons_succ]
                  refine wpAnyH_ready (rs := [1]) (by kernel_rfl) (by simp) ?_
                  refine AllReadyH.cons rfl (fun K32 hK32 => ?_) AllReadyH.nil
                  go_simp
                  refine (hc1.out _ ?_).mono ?_
                  · exact (s9_drew S9).1
                  rintro e wa ⟨rfl, ba⟩
                  have Sa := s9_below ba (s9_drew S9)
                  refine hK32.out _ _ (Sa) (fun hHeld => ?_)
                  clear hK32 K32
                  try simp only [Act.put, List.getElem_toArray, List.getElem_cons_zero, List.getElem_cons_succ, List.setIfInBounds_toArray, List.set_cons_zero, List.set_cons_succ]
                  refine wpAnyH_take (i := 2) (v := ?_) rfl (by kernel_rfl) (by kernel_rfl) (by kernel_rfl) (fun _ _ _ h => h) (Or.inl ⟨by rfl, ?_⟩) (by assumption) ?_
                  rotate_left
                  · intro wz hSw
                    (try dsimp only at hSw)
                    first
                      | (go_simp; done)
                      | (go_simp; with_reducible rfl)
                  try simp only [Act.put, List.getElem_toArray, List.getElem_cons_zero, List.getElem_cons_succ, List.setIfInBounds_toArray, List.set_cons_zero, List.set_cons_succ]
                  refine wpAnyH_take (i := 3) (v := ?_) rfl (by kernel_rfl) (by kernel_rfl) (by kernel_rfl) (fun _ _ _ h => h) (Or.inl ⟨by rfl, ?_⟩) (by assumption) ?_
                  rotate_left
                  · intro wz hSw
                    (try dsimp only at hSw)
                    first
                      | (go_simp; done)
                      | (go_simp; with_reducible rfl)
                  try simp only [Act.put, List.getElem_toArray, List.getElem_cons_zero, List.getElem_cons_succ, List.setIfInBounds_toArray, List.set_cons_zero, List.set_cons_succ]
                  refine wpAnyH_take (i := 4) (v := ?_) rfl (by kernel_rfl) (by kernel_rfl) (by kernel_rfl) (fun _ _ _ h => h) (Or.inl ⟨by rfl, ?_⟩) (by assumption) ?_
                  rotate_left
                  · intro wz hSw
                    (try dsimp only at hSw)
                    first
                      | (go_simp; done)
                      | (go_simp; with_reducible rfl)
                  try simp only [Act.put, List.getElem_toArray, List.getElem_cons_zero, List.getElem_cons_succ, List.setIfInBounds_toArray, List.set_cons_zero, List.set_cons_succ]
                  refine wpAnyH_take (i := 6) (v := ?_) rfl (by kernel_rfl) (by kernel_rfl) (by kernel_rfl) (fun _ _ _ h => h) (Or.inl ⟨by rfl, ?_⟩) (by assumption) ?_
                  rotate_left
                  · intro wz hSw
                    (try dsimp only at hSw)
                    first
                      | (go_simp; done)
                      | (go_simp; with_reducible rfl)
                  try simp only [Act.put, List.getElem_toArray, List.getElem_cons_zero, List.getElem_cons_succ, List.setIfInBounds_toArray, List.set_cons_zero, List.set_cons_succ]
                  refine wpAnyH_ready (rs := [5]) (by kernel_rfl) (by simp) ?_
                  refine AllReadyH.cons rfl (fun K32 hK32 => ?_) AllReadyH.nil
                  go_simp
                  refine (hk1.out _ ?_).mono ?_
                  · exact Sa.1
                  rintro e wk ⟨vk, rfl, ok, bk⟩
                  obtain ⟨A4, c4, rfl⟩ := own_form ok
                  have Sk := s9_below bk Sa
                  refine hK32.out _ _ (Sk) (fun hHeld => ?_)
                  clear hK32 K32
                  try simp only [Act.put, List.getElem_toArray, List.getElem_cons_zero, List.getElem_cons_succ, List.setIfInBounds_toArray, List.set_cons_zero, List.set_cons_succ]
                  refine wpAnyH_ready (rs := [7]) (by kernel_rfl) (by simp) ?_
                  refine AllReadyH.cons rfl (fun K32 hK32 => ?_) AllReadyH.nil
                  go_simp
                  refine (sameS_calls A4 K.length c4 K A3 K.length c3 K _ ?_ ?_).mono ?_
                  · exact rds_own ok
                  · exact Sk.2.1
                  rintro e wq ⟨rfl, nds, rfl⟩
                  have Sq := s9_drawn Sk nds
                  rw [decide_eq_true rfl]
                  refine hK32.out _ _ (Sq) (fun hHeld => ?_)
                  clear hK32 K32
                  try simp only [Act.put, List.getElem_toArray, List.getElem_cons_zero, List.getElem_cons_succ, List.setIfInBounds_toArray, List.set_cons_zero, List.set_cons_succ]
                  refine wpAnyH_take (i := 8) (v := ?_) rfl (by kernel_rfl) (by kernel_rfl) (by kernel_rfl) (fun _ _ _ h => h) (Or.inl ⟨by rfl, ?_⟩) (by assumption) ?_
                  rotate_left
                  · intro wz hSw
                    (try dsimp only at hSw)
                    first
                      | (go_simp; done)
                      | (go_simp; with_reducible rfl)
                  try simp only [Act.put, List.getElem_toArray, List.getElem_cons_zero, List.getElem_cons_succ, List.setIfInBounds_toArray, List.set_cons_zero, List.set_cons_succ]
                  refine wpAnyH_take (i := 9) (v := ?_) rfl (by kernel_rfl) (by kernel_rfl) (by kernel_rfl) (fun _ _ _ h => h) (Or.inl ⟨by rfl, ?_⟩) (by assumption) ?_
                  rotate_left
                  · intro wz hSw
                    (try dsimp only at hSw)
                    first
                      | (go_simp; done)
                      | (go_simp; with_reducible rfl)
                  try simp only [Act.put, List.getElem_toArray, List.getElem_cons_zero, List.getElem_cons_succ, List.setIfInBounds_toArray, List.set_cons_zero, List.set_cons_succ]
                  refine wpAnyH_take (i := 10) (v := ?_) rfl (by kernel_rfl) (by kernel_rfl) (by kernel_rfl) (fun _ _ _ h => h) (Or.inl ⟨by rfl, ?_⟩) (by assumption) ?_
                  rotate_left
                  · intro wz hSw
                    (try dsimp only at hSw)
                    first
                      | (go_simp; done)
                      | (go_simp; with_reducible rfl)
                  try simp only [Act.put, List.getElem_toArray, List.getElem_cons_zero, List.getElem_cons_succ, List.setIfInBounds_toArray, List.set_cons_zero, List.set_cons_succ]
                  refine wpAnyH_take (i := 11) (v := ?_) rfl (by kernel_rfl) (by kernel_rfl) (by kernel_rfl) (fun _ _ _ h => h) (Or.inl ⟨by rfl, ?_⟩) (by assumption) ?_
                  rotate_left
                  · intro wz hSw
                    (try dsimp only at hSw)
                    first
                      | (go_simp; done)
                      | (go_simp; with_reducible rfl)
                  try simp only [Act.put, List.getElem_toArray, List.getElem_cons_zero, List.getElem_cons_succ, List.setIfInBounds_toArray, List.set_cons_zero, List.set_cons_succ]
                  refine wpAnyH_take (i := 12) (v := ?_) rfl (by kernel_rfl) (by kernel_rfl) (by kernel_rfl) (fun _ _ _ h => h) (Or.inl ⟨by rfl, ?_⟩) (by assumption) ?_
                  rotate_left
                  · intro wz hSw
                    (try dsimp only at hSw)
                    first
                      | (go_simp; done)
                      | (go_simp; with_reducible rfl)
                  try simp only [Act.put, List.getElem_toArray, List.getElem_cons_zero, List.getElem_cons_succ, List.setIfInBounds_toArray, List.set_cons_zero, List.set_cons_succ]
                  refine wpAnyH_take (i := 13) (v := undef) rfl (by kernel_rfl) (by kernel_rfl) (by kernel_rfl) (fun _ _ _ h => h) (Or.inr ⟨by rfl, rfl⟩) (by assumption) ?_
                  try simp only [Act.put, List.getElem_toArray, List.getElem_cons_zero, List.getElem_cons_succ, List.setIfInBounds_toArray, List.set_cons_zero, List.set_cons_succ]
                  refine wpAnyH_take (i := 14) (v := undef) rfl (by kernel_rfl) (by kernel_rfl) (by kernel_rfl) (fun _ _ _ h => h) (Or.inr ⟨by rfl, rfl⟩) (by assumption) ?_
                  try simp only [Act.put, List.getElem_toArray, List.getElem_cons_zero, List.getElem_cons_succ, List.setIfInBounds_toArray, List.set_cons_zero, List.set_cons_succ]
                  refine wpAnyH_take (i := 15) (v := ?_) rfl (by kernel_rfl) (by kernel_rfl) (by kernel_rfl) (fun _ _ _ h => h) (Or.inl ⟨by rfl, ?_⟩) (by assumption) ?_
                  rotate_left
                  · intro wz hSw
                    (try dsimp only at hSw)
                    first
                      | (go_simp; done)
                      | (go_simp; with_reducible rfl)
                  try simp only [Act.put, List.getElem_toArray, List.getElem_cons_zero, List.getElem_cons_succ, List.setIfInBounds_toArray, List.set_cons_zero, List.set_cons_succ]
                  refine wpAnyH_take (i := 16) (v := ?_) rfl (by kernel_rfl) (by kernel_rfl) (by kernel_rfl) (fun _ _ _ h => h) (Or.inl ⟨by rfl, ?_⟩) (by assumption) ?_
                  rotate_left
                  · intro wz hSw
                    (try dsimp only at hSw)
                    first
                      | (go_simp; done)
                      | (go_simp; with_reducible rfl)
                  try simp only [Act.put, List.getElem_toArray, List.getElem_cons_zero, List.getElem_cons_succ, List.setIfInBounds_toArray, List.set_cons_zero, List.set_cons_succ]
                  refine wpAnyH_take (i := 17) (v := ?_) rfl (by kernel_rfl) (by kernel_rfl) (by kernel_rfl) (fun _ _ _ h => h) (Or.inl ⟨by rfl, ?_⟩) (by assumption) ?_
                  rotate_left
                  · intro wz hSw
                    (try dsimp only at hSw)
                    first
                      | (go_simp; done)
                      | (go_simp; with_reducible rfl)
                  try simp only [Act.put, List.getElem_toArray, List.getElem_cons_zero, List.getElem_cons_succ, List.setIfInBounds_toArray, List.set_cons_zero, List.set_cons_succ]
                  refine wpAnyH_take (i := 18) (v := ?_) rfl (by kernel_rfl) (by kernel_rfl) (by kernel_rfl) (fun _ _ _ h => h) (Or.inl ⟨by rfl, ?_⟩) (by assumption) ?_
                  rotate_left
                  · intro wz hSw
                    (try dsimp only at hSw)
                    first
                      | (go_simp; done)
                      | (go_simp; with_reducible rfl)
                  try simp only [Act.put, List.getElem_toArray, List.getElem_cons_zero, List.getElem_cons_succ, List.setIfInBounds_toArray, List.set_cons_zero, List.set_cons_succ]
                  refine wpAnyH_take (i := 19) (v := ?_) rfl (by kernel_rfl) (by kernel_rfl) (by kernel_rfl) (fun _ _ _ h => h) (Or.inl ⟨by rfl, ?_⟩) (by assumption) ?_
                  rotate_left
                  · intro wz hSw
                    (try dsimp only at hSw)
                    first
                      | (go_simp; done)
                      | (go_simp; with_reducible rfl)
                  try simp only [Act.put, List.getElem_toArray, List.getElem_cons_zero, List.getElem_cons_succ, List.setIfInBounds_toArray, List.set_cons_zero, List.set_cons_succ]
                  refine wpAnyH_take (i := 20) (v := ?_) rfl (by kernel_rfl) (by kernel_rfl) (by kernel_rfl) (fun _ _ _ h => h) (Or.inl ⟨by rfl, ?_⟩) (by assumption) ?_
                  rotate_left
                  · intro wz hSw
                    (try dsimp only at hSw)
                    first
                      | (go_simp; done)
                      | (go_simp; with_reducible rfl)
                  try simp only [Act.put, List.getElem_toArray, List.getElem_cons_zero, List.getElem_cons_succ, List.setIfInBounds_toArray, List.set_cons_zero, List.set_cons_succ]
                  refine wpAnyH_take (i := 21) (v := ?_) rfl (by kernel_rfl) (by kernel_rfl) (by kernel_rfl) (fun _ _ _ h => h) (Or.inl ⟨by rfl, ?_⟩) (by assumption) ?_
                  rotate_left
                  · intro wz hSw
                    (try dsimp only at hSw)
                    first
                      | (go_simp; done)
                      | (go_simp; with_reducible rfl)
                  try simp only [Act.put, List.getElem_toArray, List.getElem_cons_zero, List.getElem_cons_succ, List.setIfInBounds_toArray, List.set_cons_zero, List.set_cons_succ]
                  refine wpAnyH_take (i := 22) (v := ?_) rfl (by kernel_rfl) (by kernel_rfl) (by kernel_rfl) (fun _ _ _ h => h) (Or.inl ⟨by rfl, ?_⟩) (by assumption) ?_
                  rotate_left
                  · intro wz hSw
                    (try dsimp only at hSw)
                    first
                      | (go_simp; done)
                      | (go_simp; with_reducible rfl)
                  try simp only [Act.put, List.getElem_toArray, List.getElem_cons_zero, List.getElem_cons_succ, List.setIfInBounds_toArray, List.set_cons_zero, List.set_cons_succ]
                  refine wpAnyH_take (i := 23) (v := ?_) rfl (by kernel_rfl) (by kernel_rfl) (by kernel_rfl) (fun _ _ _ h => h) (Or.inl ⟨by rfl, ?_⟩) (by assumption) ?_
                  rotate_left
                  · intro wz hSw
                    (try dsimp only at hSw)
                    first
                      | (go_simp; done)
                      | (go_simp; with_reducible rfl)
                  try simp only [Act.put, List.getElem_toArray, List.getElem_cons_zero, List.getElem_cons_succ, List.setIfInBounds_toArray, List.set_cons_zero, List.set_cons_succ]
                  refine wpAnyH_take (i := 25) (v := ?_) rfl (by kernel_rfl) (by kernel_rfl) (by kernel_rfl) (fun _ _ _ h => h) (Or.inl ⟨by rfl, ?_⟩) (by assumption) ?_
                  rotate_left
                  · intro wz hSw
                    (try dsimp only at hSw)
                    first
                      | (go_simp; done)
                      | (go_simp; with_reducible rfl)
                  try simp only [Act.put, List.getElem_toArray, List.getElem_cons_zero, List.getElem_cons_succ, List.setIfInBounds_toArray, List.set_cons_zero, List.set_cons_succ]
                  refine wpAnyH_take (i := 26) (v := ?_) rfl (by kernel_rfl) (by kernel_rfl) (by kernel_rfl) (fun _ _ _ h => h) (Or.inl ⟨by rfl, ?_⟩) (by assumption) ?_
                  rotate_left
                  · intro wz hSw
                    (try dsimp only at hSw)
                    first
                      | (go_simp; done)
                      | (go_simp; with_reducible rfl)
                  try simp only [Act.put, List.getElem_toArray, List.getElem_cons_zero, List.getElem_cons_succ, List.setIfInBounds_toArray, List.set_cons_zero, List.set_cons_succ]
                  refine wpAnyH_take (i := 27) (v := ?_) rfl (by kernel_rfl) (by kernel_rfl) (by kernel_rfl) (fun _ _ _ h => h) (Or.inl ⟨by rfl, ?_⟩) (by assumption) ?_
                  rotate_left
                  · intro wz hSw
                    (try dsimp only at hSw)
                    first
                      | (go_simp; done)
                      | (go_simp; with_reducible rfl)
                  try simp only [Act.put, List.getElem_toArray, List.getElem_cons_zero, List.getElem_cons_succ, List.setIfInBounds_toArray, List.set_cons_zero, List.set_cons_succ]
                  refine wpAnyH_ready (rs := [24]) (by kernel_rfl) (by simp) ?_
                  refine AllReadyH.cons rfl (fun K32 hK32 => ?_) AllReadyH.nil
                  go_simp
                  refine (hc3.out _ ?_).mono ?_
                  · exact Sq.1
                  rintro e wl ⟨rfl, bl⟩
                  have Sl := s9_below bl Sq
                  refine hK32.out _ _ (Sl) (fun hHeld => ?_)
                  clear hK32 K32
                  try simp only [Act.put, List.getElem_toArray, List.getElem_cons_zero, List.getElem_cons_succ, List.setIfInBounds_toArray, List.set_cons_zero, List.set_cons_succ]
                  refine wpAnyH_take (i := 28) (v := ?_) rfl (by kernel_rfl) (by kernel_rfl) (by kernel_rfl) (fun _ _ _ h => h) (Or.inl ⟨by rfl, ?_⟩) (by assumption) ?_
                  rotate_left
                  · intro wz hSw
                    (try dsimp only at hSw)
                    first
                      | (go_simp; done)
                      | (go_simp; with_reducible rfl)
                  try simp only [Act.put, List.getElem_toArray, List.getElem_cons_zero, List.getElem_cons_succ, List.setIfInBounds_toArray, List.set_cons_zero, List.set_cons_succ]
                  refine wpAnyH_take (i := 29) (v := ?_) rfl (by kernel_rfl) (by kernel_rfl) (by kernel_rfl) (fun _ _ _ h => h) (Or.inl ⟨by rfl, ?_⟩) (by assumption) ?_
                  rotate_left
                  · intro wz hSw
                    (try dsimp only at hSw)
                    first
                      | (go_simp; done)
                      | (go_simp; with_reducible rfl)
                  try simp only [Act.put, List.getElem_toArray, List.getElem_cons_zero, List.getElem_cons_succ, List.setIfInBounds_toArray, List.set_cons_zero, List.set_cons_succ]
                  refine wpAnyH_take (i := 30) (v := ?_) rfl (by kernel_rfl) (by kernel_rfl) (by kernel_rfl) (fun _ _ _ h => h) (Or.inl ⟨by rfl, ?_⟩) (by assumption) ?_
                  rotate_left
                  · intro wz hSw
                    (try dsimp only at hSw)
                    first
                      | (go_simp; done)
                      | (go_simp; with_reducible rfl)
                  try simp only [Act.put, List.getElem_toArray, List.getElem_cons_zero, List.getElem_cons_succ, List.setIfInBounds_toArray, List.set_cons_zero, List.set_cons_succ]
                  refine wpAnyH_take (i := 31) (v := ?_) rfl (by kernel_rfl) (by kernel_rfl) (by kernel_rfl) (fun _ _ _ h => h) (Or.inl ⟨by rfl, ?_⟩) (by assumption) ?_
                  rotate_left
                  · intro wz hSw
                    (try dsimp only at hSw)
                    first
                      | (go_simp; done)
                      | (go_simp; with_reducible rfl)
                  try simp only [Act.put, List.getElem_toArray, List.getElem_cons_zero, List.getElem_cons_succ, List.setIfInBounds_toArray, List.set_cons_zero, List.set_cons_succ]
                  refine wpAnyH_take (i := 32) (v := ?_) rfl (by kernel_rfl) (by kernel_rfl) (by kernel_rfl) (fun _ _ _ h => h) (Or.inl ⟨by rfl, ?_⟩) (by assumption) ?_
                  rotate_left
                  · intro wz hSw
                    (try dsimp only at hSw)
                    first
                      | (go_simp; done)
                      | (go_simp; with_reducible rfl)
                  try simp only [Act.put, List.getElem_toArray, List.getElem_cons_zero, List.getElem_cons_succ, List.setIfInBounds_toArray, List.set_cons_zero, List.set_cons_succ]
                  refine wpAnyH_take (i := 33) (v := ?_) rfl (by kernel_rfl) (by kernel_rfl) (by kernel_rfl) (fun _ _ _ h => h) (Or.inl ⟨by rfl, ?_⟩) (by assumption) ?_
                  rotate_left
                  · intro wz hSw
                    (try dsimp only at hSw)
                    first
                      | (go_simp; done)
                      | (go_simp; with_reducible rfl)
                  try simp only [Act.put, List.getElem_toArray, List.getElem_cons_zero, List.getElem_cons_succ, List.setIfInBounds_toArray, List.set_cons_zero, List.set_cons_succ]
                  refine wpAnyH_take (i := 34) (v := ?_) rfl (by kernel_rfl) (by kernel_rfl) (by kernel_rfl) (fun _ _ _ h => h) (Or.inl ⟨by rfl, ?_⟩) (by assumption) ?_
                  rotate_left
                  · intro wz hSw
                    (try dsimp only at hSw)
                    first
                      | (go_simp; done)
                      | (go_simp; with_reducible rfl)
                  try simp only [Act.put, List.getElem_toArray, List.getElem_cons_zero, List.getElem_cons_succ, List.setIfInBounds_toArray, List.set_cons_zero, List.set_cons_succ]
                  refine wpAnyH_ready (rs := [35]) (by kernel_rfl) (by simp) ?_
                  refine AllReadyH.cons rfl (fun K32 hK32 => ?_) AllReadyH.nil
                  go_simp
                  refine (hk3.out _ ?_).mono ?_
                  · exact Sl.1
                  rintro e wm ⟨vm, rfl, om, bm⟩
                  obtain ⟨A5, c5, rfl⟩ := own_form om
                  have Sm := s9_below bm Sl
                  refine hK32.out _ _ (Sm) (fun hHeld => ?_)
                  clear hK32 K32
                  try simp only [Act.put, List.getElem_toArray, List.getElem_cons_zero, List.getElem_cons_succ, List.setIfInBounds_toArray, List.set_cons_zero, List.set_cons_succ]
                  refine wpAnyH_take (i := 36) (v := ?_) rfl (by kernel_rfl) (by kernel_rfl) (by kernel_rfl) (fun _ _ _ h => h) (Or.inl ⟨by rfl, ?_⟩) (by assumption) ?_
                  rotate_left
                  · intro wz hSw
                    (try dsimp only at hSw)
                    first
                      | (go_simp; done)
                      | (go_simp; with_reducible rfl)
                  try simp only [Act.put, List.getElem_toArray, List.getElem_cons_zero, List.getElem_cons_succ, List.setIfInBounds_toArray, List.set_cons_zero, List.set_cons_succ]
                  refine wpAnyH_take (i := 37) (v := ?_) rfl (by kernel_rfl) (by kernel_rfl) (by kernel_rfl) (fun _ _ _ h => h) (Or.inl ⟨by rfl, ?_⟩) (by assumption) ?_
                  rotate_left
                  · intro wz hSw
                    (try dsimp only at hSw)
                    first
                      | (go_simp; done)
                      | (go_simp; with_reducible rfl)
                  try simp only [Act.put, List.getElem_toArray, List.getElem_cons_zero, List.getElem_cons_succ, List.setIfInBounds_toArray, List.set_cons_zero, List.set_cons_succ]
                  refine wpAnyH_take (i := 38) (v := ?_) rfl (by kernel_rfl) (by kernel_rfl) (by kernel_rfl) (fun _ _ _ h => h) (Or.inl ⟨by rfl, ?_⟩) (by assumption) ?_
                  rotate_left
                  · intro wz hSw
                    (try dsimp only at hSw)
                    first
                      | (go_simp; done)
                      | (go_simp; with_reducible rfl)
                  try simp only [Act.put, List.getElem_toArray, List.getElem_cons_zero, List.getElem_cons_succ, List.setIfInBounds_toArray, List.set_cons_zero, List.set_cons_succ]
                  refine wpAnyH_take (i := 39) (v := ?_) rfl (by kernel_rfl) (by kernel_rfl) (by kernel_rfl) (fun _ _ _ h => h) (Or.inl ⟨by rfl, ?_⟩) (by assumption) ?_
                  rotate_left
                  · intro wz hSw
                    (try dsimp only at hSw)
                    first
                      | (go_simp; done)
                      | (go_simp; with_reducible rfl)
                  try simp only [Act.put, List.getElem_toArray, List.getElem_cons_zero, List.getElem_cons_succ, List.setIfInBounds_toArray, List.set_cons_zero, List.set_cons_succ]
                  refine wpAnyH_take (i := 40) (v := ?_) rfl (by kernel_rfl) (by kernel_rfl) (by kernel_rfl) (fun _ _ _ h => h) (Or.inl ⟨by rfl, ?_⟩) (by assumption) ?_
                  rotate_left
                  · intro wz hSw
                    (try dsimp only at hSw)
                    first
                      | (go_simp; done)
                      | (go_simp; with_reducible rfl)
                  try simp only [Act.put, List.getElem_toArray, List.getElem_cons_zero, List.getElem_cons_succ, List.setIfInBounds_toArray, List.set_cons_zero, List.set_cons_succ]
                  refine wpAnyH_take (i := 41) (v := ?_) rfl (by kernel_rfl) (by kernel_rfl) (by kernel_rfl) (fun _ _ _ h => h) (Or.inl ⟨by rfl, ?_⟩) (by assumption) ?_
                  rotate_left
                  · intro wz hSw
                    (try dsimp only at hSw)
                    first
                      | (go_simp; done)
                      | (go_simp; with_reducible rfl)
                  try simp only [Act.put, List.getElem_toArray, List.getElem_cons_zero, List.getElem_cons_succ, List.setIfInBounds_toArray, List.set_cons_zero, List.set_cons_succ]
                  refine wpAnyH_done (by kernel_rfl) ?_ _
                  go_wp2_with fail
                  go_ret
                  exact ⟨rfl, Sm.1.bel⟩)
end Go.Proofs.Ytiffdkagmnpjiaa.TcC
