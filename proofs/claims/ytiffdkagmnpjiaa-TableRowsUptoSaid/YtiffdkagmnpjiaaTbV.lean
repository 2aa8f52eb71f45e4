/-
  The law TableRows. Conditions: as stated.
-/
import Derived.Test.YtiffdkagmnpjiaaTbU
set_option maxRecDepth 100000
set_option linter.unusedSimpArgs false
set_option linter.unusedVariables false
namespace Go.Proofs.Ytiffdkagmnpjiaa.TbV
open Go.RowKit Go.Proofs.Ytiffdkagmnpjiaa.Mem Go.Proofs.Ytiffdkagmnpjiaa.TbA Go.Proofs.Ytiffdkagmnpjiaa.TbB Go.Proofs.Ytiffdkagmnpjiaa.Bytes Go.Proofs.Ytiffdkagmnpjiaa.TbI Go.Proofs.Ytiffdkagmnpjiaa.TbJ Go.Proofs.Ytiffdkagmnpjiaa.TbL Go.Proofs.Ytiffdkagmnpjiaa.TbN Go.Proofs.Ytiffdkagmnpjiaa.TbO Go.Proofs.Ytiffdkagmnpjiaa.TbP Go.Proofs.Ytiffdkagmnpjiaa.TbQ Go.Proofs.Ytiffdkagmnpjiaa.TbR Go.Proofs.Ytiffdkagmnpjiaa.TbU

theorem rdg_get {w : World} {g n c : Nat} {l : List Sp} (h : RdP w (some ⟨g, 0, none⟩) n c l) {k : Nat} {x : Sp} (hx : l[k]? = some x) :
    w.cell? ⟨g, k * 7, none⟩ = some (.string x.name) ∧ w.cell? ⟨g, k * 7 + 1, none⟩ = some (.int .i64 x.ar) ∧ w.cell? ⟨g, k * 7 + 2, none⟩ = some (.bool x.wr) ∧ w.cell? ⟨g, k * 7 + 3, none⟩ = some (.bool x.ct) ∧ w.cell? ⟨g, k * 7 + 4, none⟩ = some (.int .i64 x.fi) ∧ w.cell? ⟨g, k * 7 + 5, none⟩ = some (.int .i64 x.la) ∧ w.cell? ⟨g, k * 7 + 6, none⟩ = some (.int .i64 x.st) := by
  obtain ⟨p, e, x0, x1, x2, x3, x4, x5, x6⟩ := rdp_get h hx
  injection e with e; subst e
  rw [add_mk, Nat.zero_add] at x0 x1 x2 x3 x4 x5 x6
  exact ⟨x0, x1, x2, x3, x4, x5, x6⟩
theorem own_at {w : World} {B c : Nat} {A : Option Addr} (h : OwnP w B (.slice A 118 c) rowsL) : ∃ g, A = some ⟨g, 0, none⟩ ∧ B ≤ g ∧ g < w.heap.size ∧ RdP w (some ⟨g, 0, none⟩) 118 c rowsL ∧ ∀ i, w.frozen? ⟨g, i, none⟩ = false := by
  have hr := Rd.of_own (TbG.rowsL_len ▸ h)
  rcases h.2 with ⟨_, h0⟩ | ⟨g, cap, cur, e, h1, h2, _⟩
  · rw [TbG.rowsL_len] at h0; omega
  · injection e with e; subst e
    refine ⟨_, rfl, h1, (Array.getElem?_eq_some_iff.1 h2).1, hr, fun i => ?_⟩
    simp [World.frozen?, h2]
/-- Seven cells of one place are stored. -/
theorem store7 {w : World} {g o : Nat} (b0 b1 b2 b3 b4 b5 b6 : Value) : ∃ w', w' = (((((((w.setCell ⟨g, o, none⟩ b0).setCell ⟨g, o + 1, none⟩ b1).setCell ⟨g, o + 2, none⟩ b2).setCell ⟨g, o + 3, none⟩ b3).setCell ⟨g, o + 4, none⟩ b4).setCell ⟨g, o + 5, none⟩ b5).setCell ⟨g, o + 6, none⟩ b6) ∧ Only (fun k => k = g) w w' :=
  have h0 : Only (fun k => k = g) w w := Only.refl _ w
  ⟨_, rfl, ((((((h0.put (p := ⟨g, o, none⟩) (.inl rfl) b0).put (p := ⟨g, o + 1, none⟩) (.inl rfl) b1).put (p := ⟨g, o + 2, none⟩) (.inl rfl) b2).put (p := ⟨g, o + 3, none⟩) (.inl rfl) b3).put (p := ⟨g, o + 4, none⟩) (.inl rfl) b4).put (p := ⟨g, o + 5, none⟩) (.inl rfl) b5).put (p := ⟨g, o + 6, none⟩) (.inl rfl) b6⟩
def Hr (w w' : World) (g2 g3 g4 c2 c3 c4 : Nat) : Prop := RdP w' (some ⟨g2, 0, none⟩) 118 c2 rowsL ∧ RdP w' (some ⟨g3, 0, none⟩) 118 c3 rowsL ∧ RdP w' (some ⟨g4, 0, none⟩) 118 c4 rowsL ∧ Below w.heap.size w w'
section
variable {w w' w'' : World} {g2 g3 g4 c2 c3 c4 : Nat}
theorem hr_drew (h : Hr w w' g2 g3 g4 c2 c3 c4) : Hr w w'.drew g2 g3 g4 c2 c3 c4 := ⟨h.1.drawn 1, h.2.1.drawn 1, h.2.2.1.drawn 1, h.2.2.2.drew⟩
theorem hr_drawn (h : Hr w w' g2 g3 g4 c2 c3 c4) (n : Nat) : Hr w (w'.drewN n) g2 g3 g4 c2 c3 c4 := ⟨h.1.drawn n, h.2.1.drawn n, h.2.2.1.drawn n, h.2.2.2.trans ⟨rfl, rfl, rfl, Nat.le_refl _, fun _ _ => rfl⟩⟩
theorem hr_below (h : Hr w w' g2 g3 g4 c2 c3 c4) (hb : Below w'.heap.size w' w'') : Hr w w'' g2 g3 g4 c2 c3 c4 := ⟨h.1.below hb, h.2.1.below hb, h.2.2.1.below hb, h.2.2.2.trans (hb.mono h.2.2.2.size)⟩
theorem hr_all {m : Nat} {xn : ByteArray} {xa xf xl xs : Int} {xw xc : Bool} (h : Hr w w' g2 g3 g4 c2 c3 c4) (hx : Hid (rowsL[m]? = some ⟨xn, xa, xw, xc, xf, xl, xs⟩)) : Hr w w' g2 g3 g4 c2 c3 c4 ∧ w'.cell? ⟨g2, m * 7, none⟩ = some (.string xn) ∧ w'.cell? ⟨g2, m * 7 + 1, none⟩ = some (.int .i64 xa) ∧ w'.cell? ⟨g2, m * 7 + 2, none⟩ = some (.bool xw) ∧ w'.cell? ⟨g2, m * 7 + 3, none⟩ = some (.bool xc) ∧ w'.cell? ⟨g2, m * 7 + 4, none⟩ = some (.int .i64 xf) ∧ w'.cell? ⟨g2, m * 7 + 5, none⟩ = some (.int .i64 xl) ∧ w'.cell? ⟨g2, m * 7 + 6, none⟩ = some (.int .i64 xs) ∧ w'.cell? ⟨g3, m * 7, none⟩ = some (.string xn) ∧ w'.cell? ⟨g3, m * 7 + 1, none⟩ = some (.int .i64 xa) ∧ w'.cell? ⟨g3, m * 7 + 2, none⟩ = some (.bool xw) ∧ w'.cell? ⟨g3, m * 7 + 3, none⟩ = some (.bool xc) ∧ w'.cell? ⟨g3, m * 7 + 4, none⟩ = some (.int .i64 xf) ∧ w'.cell? ⟨g3, m * 7 + 5, none⟩ = some (.int .i64 xl) ∧ w'.cell? ⟨g3, m * 7 + 6, none⟩ = some (.int .i64 xs) ∧ w'.cell? ⟨g4, m * 7, none⟩ = some (.string xn) ∧ w'.cell? ⟨g4, m * 7 + 1, none⟩ = some (.int .i64 xa) ∧ w'.cell? ⟨g4, m * 7 + 2, none⟩ = some (.bool xw) ∧ w'.cell? ⟨g4, m * 7 + 3, none⟩ = some (.bool xc) ∧ w'.cell? ⟨g4, m * 7 + 4, none⟩ = some (.int .i64 xf) ∧ w'.cell? ⟨g4, m * 7 + 5, none⟩ = some (.int .i64 xl) ∧ w'.cell? ⟨g4, m * 7 + 6, none⟩ = some (.int .i64 xs) := by
  obtain ⟨a0, a1, a2, a3, a4, a5, a6⟩ := rdg_get h.1 hx.out
  obtain ⟨b0, b1, b2, b3, b4, b5, b6⟩ := rdg_get h.2.1 hx.out
  obtain ⟨d0, d1, d2, d3, d4, d5, d6⟩ := rdg_get h.2.2.1 hx.out
  exact ⟨h, a0, a1, a2, a3, a4, a5, a6, b0, b1, b2, b3, b4, b5, b6, d0, d1, d2, d3, d4, d5, d6⟩
theorem hr_all0 {xn : ByteArray} {xa xf xl xs : Int} {xw xc : Bool} (h : Hr w w' g2 g3 g4 c2 c3 c4) (hx : Hid (rowsL[0]? = some ⟨xn, xa, xw, xc, xf, xl, xs⟩)) : Hr w w' g2 g3 g4 c2 c3 c4 ∧ w'.cell? ⟨g2, 0, none⟩ = some (.string xn) ∧ w'.cell? ⟨g2, 1, none⟩ = some (.int .i64 xa) ∧ w'.cell? ⟨g2, 2, none⟩ = some (.bool xw) ∧ w'.cell? ⟨g2, 3, none⟩ = some (.bool xc) ∧ w'.cell? ⟨g2, 4, none⟩ = some (.int .i64 xf) ∧ w'.cell? ⟨g2, 5, none⟩ = some (.int .i64 xl) ∧ w'.cell? ⟨g2, 6, none⟩ = some (.int .i64 xs) ∧ w'.cell? ⟨g3, 0, none⟩ = some (.string xn) ∧ w'.cell? ⟨g3, 1, none⟩ = some (.int .i64 xa) ∧ w'.cell? ⟨g3, 2, none⟩ = some (.bool xw) ∧ w'.cell? ⟨g3, 3, none⟩ = some (.bool xc) ∧ w'.cell? ⟨g3, 4, none⟩ = some (.int .i64 xf) ∧ w'.cell? ⟨g3, 5, none⟩ = some (.int .i64 xl) ∧ w'.cell? ⟨g3, 6, none⟩ = some (.int .i64 xs) ∧ w'.cell? ⟨g4, 0, none⟩ = some (.string xn) ∧ w'.cell? ⟨g4, 1, none⟩ = some (.int .i64 xa) ∧ w'.cell? ⟨g4, 2, none⟩ = some (.bool xw) ∧ w'.cell? ⟨g4, 3, none⟩ = some (.bool xc) ∧ w'.cell? ⟨g4, 4, none⟩ = some (.int .i64 xf) ∧ w'.cell? ⟨g4, 5, none⟩ = some (.int .i64 xl) ∧ w'.cell? ⟨g4, 6, none⟩ = some (.int .i64 xs) := by
  have := hr_all h hx
  simp only [Nat.zero_mul, Nat.zero_add] at this
  exact this
end
theorem hr_below_ {B : Nat} {w w' : World} (h : Below B w w') (n : Nat) : Below B w (w'.drewN n) := h.trans ⟨rfl, rfl, rfl, Nat.le_refl _, fun _ _ => rfl⟩
set_option maxHeartbeats 4000000 in
theorem rows_law (at_ : Int) (w : World) (h1 : -9223372036854775808 ≤ at_) (h2 : at_ ≤ 9223372036854775807) : Calls Try.prog 4 #[.int .i64 at_] w fun e w' => e = .returned (.bool true) ∧ Below w.heap.size w w' := by
  go_enter Try.func4, Try.ntmps4
  go_wp2_with fail
  refine (TbG.all_own _).mono ?_
  rintro e w1 ⟨A1, c1, rfl, o1, b1⟩
  go_wp2_with fail
  refine (TbG.all_own _).mono ?_
  rintro e w2 ⟨A2, c2, rfl, o2, b2⟩
  go_wp2_with fail
  refine (TbC.rows_calls _).mono ?_
  rintro e w3 ⟨v3, rfl, o3, b3⟩
  obtain ⟨A3, c3, rfl⟩ := own_form o3
  have o1' := own_only (own_only o1 (Only.of_below b2) (fun k hk => by have := (o1.lt k hk).2; omega)) (Only.of_below b3) (fun k hk => by have := (o1.lt k hk).2; have := b2.size; omega)
  have o2' := own_only o2 (Only.of_below b3) (fun k hk => by have := (o2.lt k hk).2; omega)
  rw [TbG.rowsL_len] at o3 ⊢
  obtain ⟨g1, rfl, k1, s1, r1, fr1⟩ := own_at o1'
  obtain ⟨g2, rfl, k2, s2, r2, -⟩ := own_at o2'
  obtain ⟨g3, rfl, k3, s3, r3, -⟩ := own_at (TbG.rowsL_len.symm ▸ o3)
  have u1 : g1 < w1.heap.size := (o1.lt _ rfl).2
  have u2 : g2 < w2.heap.size := (o2.lt _ rfl).2
  have hcap := r3.cap
  have hbig : c3 ≤ 9223372036854775807 := r3.big
  have B3 : Below w.heap.size w w3 := (b1.trans (b2.mono b1.size)).trans (b3.mono (Nat.le_trans b1.size b2.size))
  have hlen := Lib.hid TbG.rowsL_len
  clear o1 o2 o3 o1' o2' b1 b2 b3
  go_wp2_with fail
  go_loopw [6] (fun i wr => ∃ k : Nat, k ≤ 118 ∧ i = .int .i64 k ∧ ∃ nd, wr = w3.drewN nd) (fun i _ => 118 - (intOf i).toNat)
  case atStart => exact ⟨0, Nat.zero_le _, rfl, 0, rfl⟩
  case round =>
    obtain ⟨k, hk, rfl, nd, rfl⟩ := hrel
    by_cases hlt : k < 118
    · obtain ⟨x, hx⟩ : ∃ x, rowsL[k]? = some x := ⟨_, List.getElem?_eq_getElem (by rw [hlen.out]; exact hlt)⟩
      obtain ⟨x0, x1, x2, x3, x4, x5, x6⟩ := rdg_get r1 hx
      obtain ⟨y0, y1, y2, y3, y4, y5, y6⟩ := rdg_get r3 hx
      clear hx
      obtain ⟨xn, xa, xw, xc, xf, xl, xs⟩ := x
      simp only at x0 x1 x2 x3 x4 x5 x6 y0 y1 y2 y3 y4 y5 y6
      go_wp2_with fail
      go_quiet (fail)
      go_wp2_with fail
      exact ⟨⟨k + 1, by omega, by go_num, nd + nq, by first | rfl | exact drew2 _ _ _⟩, by simp [intOf]; omega⟩
    · obtain rfl : k = 118 := by omega
      obtain ⟨m, hm, hq⟩ : ∃ m : Nat, m < 118 ∧ (at_ < 0 ∧ m = 0 ∨ 0 ≤ at_ ∧ at_.tmod 118 = m) := by
        rcases Int.lt_or_le at_ 0 with h | h
        · exact ⟨0, by omega, .inl ⟨h, rfl⟩⟩
        · exact ⟨(at_.tmod 118).toNat, by rw [Int.tmod_eq_emod_of_nonneg h]; omega, .inr ⟨h, by rw [Int.tmod_eq_emod_of_nonneg h]; omega⟩⟩
      obtain ⟨x, hx⟩ : ∃ x, rowsL[m]? = some x := ⟨_, List.getElem?_eq_getElem (by rw [hlen.out]; exact hm)⟩
      obtain ⟨x0, x1, x2, x3, x4, x5, x6⟩ := rdg_get r1 hx
      have f0 := fr1 (m * 7)
      have f1 := fr1 (m * 7 + 1)
      have f2 := fr1 (m * 7 + 2)
      have f3 := fr1 (m * 7 + 3)
      have f4 := fr1 (m * 7 + 4)
      have f5 := fr1 (m * 7 + 5)
      have f6 := fr1 (m * 7 + 6)
      have Hx := Lib.hid hx
      clear hx
      rcases hq with ⟨hq1, rfl⟩ | ⟨hq1, hq2⟩
      · simp only [Nat.zero_mul, Nat.zero_add] at x0 x1 x2 x3 x4 x5 x6 f0 f1 f2 f3 f4 f5 f6
        go_wp2_with fail
        obtain ⟨w4, hw4, hO⟩ := store7 (w := w3.drewN nd) (g := g1) (o := 0) (.string ⟨#[115, 112, 111, 105, 108, 116]⟩) (.int .i64 0) (.bool false) (.bool false) (.int .i64 0) (.int .i64 0) (.int .i64 0)
        simp only [Nat.zero_add] at hw4
        rw [← hw4]
        have q2 : RdP w4 (some ⟨g2, 0, none⟩) 118 c2 rowsL := (r2.drawn nd).only hO (fun ad h => by injection h with h; subst h; show ¬ g2 = g1; omega)
        have q3 : RdP w4 (some ⟨g3, 0, none⟩) 118 c3 rowsL := (r3.drawn nd).only hO (fun ad h => by injection h with h; subst h; show ¬ g3 = g1; omega)
        have B4 : Below w.heap.size w w4 := hO.after (hr_below_ B3 nd) (Nat.le_refl _) (fun k h => by subst h; exact k1)
        have s4 : w3.heap.size ≤ w4.heap.size := hO.size
        clear hw4 hO f0 f1 f2 f3 f4 f5 f6 x0 x1 x2 x3 x4 x5 x6 B3 r1 r2 r3 fr1
        refine (TbG.all_own _).mono ?_
        rintro e w5 ⟨A4, c4, rfl, o4, b5⟩
        obtain ⟨g4, rfl, k4, s5, r4, -⟩ := own_at o4
        obtain ⟨xn, xa, xw, xc, xf, xl, xs⟩ := x
        have S14 : Hr w w5 g2 g3 g4 c2 c3 c4 := ⟨q2.below b5, q3.below b5, r4, B4.trans (b5.mono B4.size)⟩
        clear q2 q3 r4 b5 B4 o4
        go_upto_region 14 with fail
        go_region_held3 (fun w' => Hr w w' g2 g3 g4 c2 c3 c4 ∧ w'.cell? ⟨g2, 0, none⟩ = some (.string xn) ∧ w'.cell? ⟨g2, 1, none⟩ = some (.int .i64 xa) ∧ w'.cell? ⟨g2, 2, none⟩ = some (.bool xw) ∧ w'.cell? ⟨g2, 3, none⟩ = some (.bool xc) ∧ w'.cell? ⟨g2, 4, none⟩ = some (.int .i64 xf) ∧ w'.cell? ⟨g2, 5, none⟩ = some (.int .i64 xl) ∧ w'.cell? ⟨g2, 6, none⟩ = some (.int .i64 xs) ∧ w'.cell? ⟨g3, 0, none⟩ = some (.string xn) ∧ w'.cell? ⟨g3, 1, none⟩ = some (.int .i64 xa) ∧ w'.cell? ⟨g3, 2, none⟩ = some (.bool xw) ∧ w'.cell? ⟨g3, 3, none⟩ = some (.bool xc) ∧ w'.cell? ⟨g3, 4, none⟩ = some (.int .i64 xf) ∧ w'.cell? ⟨g3, 5, none⟩ = some (.int .i64 xl) ∧ w'.cell? ⟨g3, 6, none⟩ = some (.int .i64 xs) ∧ w'.cell? ⟨g4, 0, none⟩ = some (.string xn) ∧ w'.cell? ⟨g4, 1, none⟩ = some (.int .i64 xa) ∧ w'.cell? ⟨g4, 2, none⟩ = some (.bool xw) ∧ w'.cell? ⟨g4, 3, none⟩ = some (.bool xc) ∧ w'.cell? ⟨g4, 4, none⟩ = some (.int .i64 xf) ∧ w'.cell? ⟨g4, 5, none⟩ = some (.int .i64 xl) ∧ w'.cell? ⟨g4, 6, none⟩ = some (.int .i64 xs))
          (first
            | exact hr_all0 (hr_drew S14) Hx
            | exact hr_all0 (hr_below (And.left (by assumption)) (by assumption)) Hx
            | exact hr_all0 (hr_drawn (And.left (by assumption)) _) Hx
            | assumption)
          (first
            | (go_at_call 12; refine (awake_calls _).mono ?_; rintro e w15 ⟨rfl, hb15⟩))
        all_goals (
          obtain ⟨hS, -⟩ := ‹Hr w w15 g2 g3 g4 c2 c3 c4 ∧ _›
          go_wp2_with fail
          go_ret
          exact ⟨rfl, hS.2.2.2⟩)
      · have hmi : (m : Int) < 118 := by omega
        have hm0 : (0 : Int) ≤ (m : Int) := by omega
        go_wp2_with fail
        obtain ⟨w4, hw4, hO⟩ := store7 (w := w3.drewN nd) (g := g1) (o := m * 7) (.string ⟨#[115, 112, 111, 105, 108, 116]⟩) (.int .i64 0) (.bool false) (.bool false) (.int .i64 0) (.int .i64 0) (.int .i64 0)
        rw [← hw4]
        have q2 : RdP w4 (some ⟨g2, 0, none⟩) 118 c2 rowsL := (r2.drawn nd).only hO (fun ad h => by injection h with h; subst h; show ¬ g2 = g1; omega)
        have q3 : RdP w4 (some ⟨g3, 0, none⟩) 118 c3 rowsL := (r3.drawn nd).only hO (fun ad h => by injection h with h; subst h; show ¬ g3 = g1; omega)
        have B4 : Below w.heap.size w w4 := hO.after (hr_below_ B3 nd) (Nat.le_refl _) (fun k h => by subst h; exact k1)
        have s4 : w3.heap.size ≤ w4.heap.size := hO.size
        clear hw4 hO f0 f1 f2 f3 f4 f5 f6 x0 x1 x2 x3 x4 x5 x6 B3 r1 r2 r3 fr1
        refine (TbG.all_own _).mono ?_
        rintro e w5 ⟨A4, c4, rfl, o4, b5⟩
        obtain ⟨g4, rfl, k4, s5, r4, -⟩ := own_at o4
        obtain ⟨xn, xa, xw, xc, xf, xl, xs⟩ := x
        have S14 : Hr w w5 g2 g3 g4 c2 c3 c4 := ⟨q2.below b5, q3.below b5, r4, B4.trans (b5.mono B4.size)⟩
        clear q2 q3 r4 b5 B4 o4
        go_upto_region 14 with fail
        go_region_held3 (fun w' => Hr w w' g2 g3 g4 c2 c3 c4 ∧ w'.cell? ⟨g2, m * 7, none⟩ = some (.string xn) ∧ w'.cell? ⟨g2, m * 7 + 1, none⟩ = some (.int .i64 xa) ∧ w'.cell? ⟨g2, m * 7 + 2, none⟩ = some (.bool xw) ∧ w'.cell? ⟨g2, m * 7 + 3, none⟩ = some (.bool xc) ∧ w'.cell? ⟨g2, m * 7 + 4, none⟩ = some (.int .i64 xf) ∧ w'.cell? ⟨g2, m * 7 + 5, none⟩ = some (.int .i64 xl) ∧ w'.cell? ⟨g2, m * 7 + 6, none⟩ = some (.int .i64 xs) ∧ w'.cell? ⟨g3, m * 7, none⟩ = some (.string xn) ∧ w'.cell? ⟨g3, m * 7 + 1, none⟩ = some (.int .i64 xa) ∧ w'.cell? ⟨g3, m * 7 + 2, none⟩ = some (.bool xw) ∧ w'.cell? ⟨g3, m * 7 + 3, none⟩ = some (.bool xc) ∧ w'.cell? ⟨g3, m * 7 + 4, none⟩ = some (.int .i64 xf) ∧ w'.cell? ⟨g3, m * 7 + 5, none⟩ = some (.int .i64 xl) ∧ w'.cell? ⟨g3, m * 7 + 6, none⟩ = some (.int .i64 xs) ∧ w'.cell? ⟨g4, m * 7, none⟩ = some (.string xn) ∧ w'.cell? ⟨g4, m * 7 + 1, none⟩ = some (.int .i64 xa) ∧ w'.cell? ⟨g4, m * 7 + 2, none⟩ = some (.bool xw) ∧ w'.cell? ⟨g4, m * 7 + 3, none⟩ = some (.bool xc) ∧ w'.cell? ⟨g4, m * 7 + 4, none⟩ = some (.int .i64 xf) ∧ w'.cell? ⟨g4, m * 7 + 5, none⟩ = some (.int .i64 xl) ∧ w'.cell? ⟨g4, m * 7 + 6, none⟩ = some (.int .i64 xs))
          (first
            | exact hr_all (hr_drew S14) Hx
            | exact hr_all (hr_below (And.left (by assumption)) (by assumption)) Hx
            | exact hr_all (hr_drawn (And.left (by assumption)) _) Hx
            | assumption)
          (first
            | (go_at_call 12; refine (awake_calls _).mono ?_; rintro e w15 ⟨rfl, hb15⟩))
        all_goals (
          obtain ⟨hS, -⟩ := ‹Hr w w15 g2 g3 g4 c2 c3 c4 ∧ _›
          go_wp2_with fail
          go_ret
          exact ⟨rfl, hS.2.2.2⟩)
end Go.Proofs.Ytiffdkagmnpjiaa.TbV
