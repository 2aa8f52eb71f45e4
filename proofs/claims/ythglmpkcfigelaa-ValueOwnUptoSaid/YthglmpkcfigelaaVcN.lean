/-
  The walk of ValueChecks. Conditions: as stated.
-/
import Derived.Test.YthglmpkcfigelaaVbE
import Derived.Test.YthglmpkcfigelaaVaO
import Derived.Test.YthglmpkcfigelaaVaN
import Derived.Deep.RegionHeld3
set_option maxRecDepth 100000
set_option linter.unusedSimpArgs false
set_option linter.unusedVariables false
namespace Go.Proofs.Ythglmpkcfigelaa.VcN
open Go.RowKit Go.Proofs.Ythglmpkcfigelaa.Mem Go.Proofs.Ythglmpkcfigelaa.VaA Go.Proofs.Ythglmpkcfigelaa.VaC Go.Proofs.Ythglmpkcfigelaa.VaH Go.Proofs.Ythglmpkcfigelaa.VaI Go.Proofs.Ythglmpkcfigelaa.VaJ Go.Proofs.Ythglmpkcfigelaa.VaL Go.Proofs.Ythglmpkcfigelaa.VaN Go.Proofs.Ythglmpkcfigelaa.VaO Go.Proofs.Ythglmpkcfigelaa.VaT Go.Proofs.Ythglmpkcfigelaa.VaU Go.Proofs.Ythglmpkcfigelaa.VaW Go.Proofs.Ythglmpkcfigelaa.VaX Go.Proofs.Ythglmpkcfigelaa.VaY Go.Proofs.Ythglmpkcfigelaa.VaZ Go.Proofs.Ythglmpkcfigelaa.VbA Go.Proofs.Ythglmpkcfigelaa.VbB Go.Proofs.Ythglmpkcfigelaa.VbE

/-- The cells of two boxes. -/
abbrev S2 (W : World) (g h : Nat) (k : Int) (t : ByteArray) (L F K : Value) (k' : Int) (t' : ByteArray) (L' F' K' : Value) (w' : World) : Prop :=
  Below W.heap.size W w' ∧ (w'.cell? ⟨g, 0, none⟩ = some (.int .i64 k) ∧ w'.cell? ⟨g, 1, none⟩ = some (.string t) ∧ w'.cell? ⟨g, 2, none⟩ = some L ∧ w'.cell? ⟨g, 3, none⟩ = some F ∧ w'.cell? ⟨g, 4, none⟩ = some K) ∧
  (w'.cell? ⟨h, 0, none⟩ = some (.int .i64 k') ∧ w'.cell? ⟨h, 1, none⟩ = some (.string t') ∧ w'.cell? ⟨h, 2, none⟩ = some L' ∧ w'.cell? ⟨h, 3, none⟩ = some F' ∧ w'.cell? ⟨h, 4, none⟩ = some K')
section
variable {W w w' : World} {g h : Nat} {k k' : Int} {t t' : ByteArray} {L F K L' F' K' : Value}
theorem s2_of (hp : Bv W g k t L F K) (hq : Bv W h k' t' L' F' K') : S2 W g h k t L F K k' t' L' F' K' W := ⟨Below.refl _ _, hp.cells, hq.cells⟩
theorem s2_below (hs : S2 W g h k t L F K k' t' L' F' K' w) (hb : Below w.heap.size w w') : S2 W g h k t L F K k' t' L' F' K' w' :=
  ⟨hs.1.trans (hb.mono hs.1.size), ⟨cell_b hs.2.1.1 hb, cell_b hs.2.1.2.1 hb, cell_b hs.2.1.2.2.1 hb, cell_b hs.2.1.2.2.2.1 hb, cell_b hs.2.1.2.2.2.2 hb⟩, ⟨cell_b hs.2.2.1 hb, cell_b hs.2.2.2.1 hb, cell_b hs.2.2.2.2.1 hb, cell_b hs.2.2.2.2.2.1 hb, cell_b hs.2.2.2.2.2.2 hb⟩⟩
theorem s2_drew (hs : S2 W g h k t L F K k' t' L' F' K' w) : S2 W g h k t L F K k' t' L' F' K' w.drew := s2_below hs ((Below.refl _ _).drew)
end
theorem empty_alike {y x : VV} (h : VbE.Alike y x) : emptyD y = emptyD x := by
  obtain ⟨h1, h2, h3, h4, h5, h6, h7, h8⟩ := h
  unfold emptyD isK emptyV
  simp only [h1, h2, h3, h4, h5, h6, h7, h8]

set_option maxHeartbeats 8000000 in
theorem checks_calls (x : VV) (kind : Int) (w : World) (ha : LawV.Arg w x) (hk1 : -9223372036854775808 ≤ kind) (hk2 : kind ≤ 9223372036854775807) : Calls Try.prog 8 #[x.val, .int .i64 kind] w fun e w' => e = .returned (.bool true) ∧ Below w.heap.size w w' := by
  have hv : x.val = .agg #[.int .i64 x.kind, .string x.text, .slice x.LA x.ln x.lc, .slice x.FA x.fn x.fc, .slice x.KA x.kn x.kc] := rfl
  have hsp := fun w' (h : Below w.heap.size w w') => spare_calls x w' (ha.rd.below h) ha.sm
  have hre := fun w' (h : Below w.heap.size w w') => encR_calls x w' (ha.rd.below h) ha.sm
  have hcr := fun w' (h : Below w.heap.size w w') => checkR_calls x w' (ha.rd.below h) ha.sm.kn
  have her := fun w' => emptyR_calls x w'
  have hkp := fun y w' B (hy : Spa w' B y x) (h : Below w.heap.size w w') => kept_calls y x w' B hy (ha.rd.below h) ha.sm
  obtain ⟨EV, hEV⟩ : ∃ EV, emptyD x = EV := ⟨_, rfl⟩
  obtain ⟨E, hE⟩ : ∃ E : ByteArray, (⟨(encV x).toArray⟩ : ByteArray) = E := ⟨_, rfl⟩
  obtain ⟨C, hC⟩ : ∃ C, chk x = C := ⟨_, rfl⟩
  have hL : (encV x).length = E.size := by rw [← hE]; simp [ByteArray.size]
  rw [hv] at hsp hre hcr her ⊢
  simp only [hv] at hkp
  rw [hEV] at her
  rw [hC] at hcr
  rw [hE, hC] at hre
  obtain ⟨W0, hW0⟩ : ∃ W0, w.alloc (.cells #[.int .i64 x.kind, .string x.text, .slice x.LA x.ln x.lc, .slice x.FA x.fn x.fc, .slice x.KA x.kn x.kc] 26) = W0 := ⟨_, rfl⟩
  have B0 : Below w.heap.size w W0 := by rw [← hW0]; exact (Below.refl _ w).alloc (Nat.le_refl _) _
  have p0 : Bv W0 w.heap.size x.kind x.text (.slice x.LA x.ln x.lc) (.slice x.FA x.fn x.fc) (.slice x.KA x.kn x.kc) := by
    rw [← hW0]; exact heap_alloc_new w _
  have H0 := Lib.hid hW0
  have HQ := Lib.hid (And.intro hEV (And.intro hL hC))
  clear hW0 hE hEV hL hC hk1 hk2
  obtain ⟨x0, x1, x2, x3, x4⟩ := p0.cells
  go_enter Try.func8, Try.ntmps8
  go_wp2_with fail
  rw [H0.out]
  go_wp2_with fail
  refine (hsp W0 B0).mono ?_
  rintro e w1 ⟨y, rfl, sp1, b1⟩
  have B1 := B0.trans (b1.mono B0.size)
  have P1 : Bv w1 w.heap.size x.kind x.text (.slice x.LA x.ln x.lc) (.slice x.FA x.fn x.fc) (.slice x.KA x.kn x.kc) := Bv.below p0 b1
  obtain ⟨W2, hW2⟩ : ∃ W2, w1.alloc (.cells #[.int .i64 y.kind, .string y.text, .slice y.LA y.ln y.lc, .slice y.FA y.fn y.fc, .slice y.KA y.kn y.kc] 26) = W2 := ⟨_, rfl⟩
  have b2 : Below w1.heap.size w1 W2 := by rw [← hW2]; exact (Below.refl _ w1).alloc (Nat.le_refl _) _
  have q2 : Bv W2 w1.heap.size y.kind y.text (.slice y.LA y.ln y.lc) (.slice y.FA y.fn y.fc) (.slice y.KA y.kn y.kc) := by
    rw [← hW2]; exact heap_alloc_new w1 _
  have p2 := Bv.below P1 b2
  have sp2 := spa_below sp1 b2
  have B2 := B1.trans (b2.mono B1.size)
  have hyv : y.val = .agg #[.int .i64 y.kind, .string y.text, .slice y.LA y.ln y.lc, .slice y.FA y.fn y.fc, .slice y.KA y.kn y.kc] := rfl
  have sy := spa_sm sp2 ha.sm
  have al := spa_alike sp2
  have hcp := fun w' (h : Below W2.heap.size W2 w') => check_calls y w' (sp2.rd.below h) sy.kn sy.z
  have hwt := fun w' (h : Below W2.heap.size W2 w') => weight_calls y w' (sp2.rd.below h) sy
  have hep := fun w' => emptyP_calls y w'
  have hkp' := fun w' (h : Below W2.heap.size W2 w') => hkp y w' _ (spa_below sp2 h) (B2.trans (h.mono B2.size))
  rw [chk_alike al, HQ.out.2.2] at hcp
  rw [enc_alike al, HQ.out.2.1] at hwt
  rw [empty_alike al, HQ.out.1] at hep
  rw [hyv] at hcp hwt hep ⊢
  simp only [hyv] at hkp'
  subst hW2
  clear sp1 sp2 P1 p0 hkp hsp x0 x1 x2 x3 x4 b1 b2 HQ sy al
  obtain ⟨x0, x1, x2, x3, x4⟩ := p2.cells
  go_wp2_with fail
  refine (hre _ B2).mono ?_
  rintro e w4 ⟨rfl, b4⟩
  have B4 := B2.trans (b4.mono B2.size)
  have p4 := Bv.below p2 b4
  have q4 := Bv.below q2 b4
  have hcp4 := fun w' (h : Below w4.heap.size w4 w') => hcp w' (b4.trans (h.mono b4.size))
  have hwt4 := fun w' (h : Below w4.heap.size w4 w') => hwt w' (b4.trans (h.mono b4.size))
  have hkp4 := fun w' (h : Below w4.heap.size w4 w') => hkp' w' (b4.trans (h.mono b4.size))
  have hcr4 := fun w' (h : Below w4.heap.size w4 w') => hcr w' (B4.trans (h.mono B4.size))
  clear p2 q2 x0 x1 x2 x3 x4 hcp hwt hkp' hcr hre
  have HS := s2_of p4 q4
  clear p4 q4 b4
  go_upto_region 3 with fail
  go_region_held3 (fun w' => S2 w4 w.heap.size w1.heap.size x.kind x.text (.slice x.LA x.ln x.lc) (.slice x.FA x.fn x.fc) (.slice x.KA x.kn x.kc) y.kind y.text (.slice y.LA y.ln y.lc) (.slice y.FA y.fn y.fc) (.slice y.KA y.kn y.kc) w')
    (first | exact s2_drew HS | assumption | exact s2_below (by assumption) (by assumption))
    (first
      | (go_at_call 18; refine (hcp4 _ (And.left (‹S2 w4 _ _ _ _ _ _ _ _ _ _ _ _ _›))).mono ?_; rintro e w5 ⟨rfl, hb5⟩)
      | (go_at_call 22; refine (hcr4 _ (And.left (‹S2 w4 _ _ _ _ _ _ _ _ _ _ _ _ _›))).mono ?_; rintro e w5 ⟨rfl, hb5⟩)
      | (go_at_call 23; refine (hep _).mono ?_; rintro e w5 ⟨rfl, hb5⟩)
      | (go_at_call 24; refine (her _).mono ?_; rintro e w5 ⟨rfl, hb5⟩)
      | (go_at_call 25; refine (hwt4 _ (And.left (‹S2 w4 _ _ _ _ _ _ _ _ _ _ _ _ _›))).mono ?_; rintro e w5 ⟨rfl, hb5⟩)
      | (go_at_call 26; refine (nameP_calls kind _).mono ?_; rintro e w5 ⟨rfl, rfl⟩)
      | (go_at_call 27; refine (nameR_calls kind _).mono ?_; rintro e w5 ⟨rfl, hb5⟩)
      | (go_at_call 13; refine (hkp4 _ (And.left (‹S2 w4 _ _ _ _ _ _ _ _ _ _ _ _ _›))).mono ?_; rintro e w5 ⟨rfl, hb5⟩)
      | (go_at_call 14; refine (awake_calls _).mono ?_; rintro e w5 ⟨rfl, hb5⟩))
  all_goals (
    have hK := And.left (‹S2 w4 _ _ _ _ _ _ _ _ _ _ _ _ _›)
    go_wp2_with fail
    go_ret
    exact ⟨rfl, B4.trans (hK.mono B4.size)⟩)
end Go.Proofs.Ythglmpkcfigelaa.VcN
