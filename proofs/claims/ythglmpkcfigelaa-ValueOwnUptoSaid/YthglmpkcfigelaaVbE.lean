/-
  The law's example; the walk of ValueEncodes. Conditions: as stated.
-/
import Derived.Test.YthglmpkcfigelaaVbD
import Derived.Test.YthglmpkcfigelaaLawV
import Derived.Test.YthglmpkcfigelaaVaY
import Derived.Test.YthglmpkcfigelaaVaZ
set_option maxRecDepth 100000
set_option linter.unusedSimpArgs false
set_option linter.unusedVariables false
namespace Go.Proofs.Ythglmpkcfigelaa.VbE
open Go.RowKit Go.Proofs.Ythglmpkcfigelaa.Mem Go.Proofs.Ythglmpkcfigelaa.VaA Go.Proofs.Ythglmpkcfigelaa.VaC Go.Proofs.Ythglmpkcfigelaa.VaH Go.Proofs.Ythglmpkcfigelaa.VaI Go.Proofs.Ythglmpkcfigelaa.VaL Go.Proofs.Ythglmpkcfigelaa.VaT Go.Proofs.Ythglmpkcfigelaa.VaW Go.Proofs.Ythglmpkcfigelaa.VaY Go.Proofs.Ythglmpkcfigelaa.VaZ Go.Proofs.Ythglmpkcfigelaa.VbA Go.Proofs.Ythglmpkcfigelaa.VbB Go.Proofs.Ythglmpkcfigelaa.VbD

def hiV : VV := ⟨1, ⟨#[104, 105]⟩, none, 0, 0, [], none, 0, 0, [], none, 0, 0, []⟩
def hiS : ByteArray := ⟨#[1, 2, 0, 0, 0, 104, 105, 120]⟩
theorem hi_enc : (encV hiV).toArray = #[1, 2, 0, 0, 0, 104, 105] := by decide +kernel
theorem hi_chk : chk hiV = 0 := by decide +kernel
theorem hi_0 : rnum hiS 1 (0, false) = (1, (1, false)) := by decide +kernel
theorem hi_1 : rtxt hiS (1, false) = (⟨#[104, 105]⟩, (7, false)) := by decide +kernel
theorem hi_dec : decD hiS = ⟨1, ⟨#[104, 105]⟩, ⟨7, false, [], [], []⟩⟩ := by unfold decD; rw [hi_0]; dsimp only; rw [if_pos rfl, hi_1]
theorem hi_ok : (decD hiS).ok = true := by rw [hi_dec]; decide +kernel
theorem hi_rd (w : World) : RdV w hiV := ⟨rd_nil0 _ _, rd_nil0 _ _, rd_nil0 _ _⟩
theorem hi_sm : Sm hiV := ⟨by decide, by decide, by decide, by decide, by decide, by decide, by decide, fun y h => by cases h⟩

theorem hi_enc_calls (w : World) : Calls Try.prog 11 #[.agg #[.int .i64 1, .string ⟨#[104, 105]⟩, .slice none 0 0, .slice none 0 0, .slice none 0 0]] w fun e w' => e = .returned (.tuple #[.string ⟨#[1, 2, 0, 0, 0, 104, 105]⟩, .int .i64 0]) ∧ Below w.heap.size w w' := by
  have h := encode_calls hiV w (hi_rd w) hi_sm
  rw [hi_enc, hi_chk] at h
  exact h
theorem hi_dec_calls (w : World) : Calls Try.prog 15 #[.string ⟨#[1, 2, 0, 0, 0, 104, 105, 120]⟩] w fun e w' => ∃ LA ln lc FA fn fc KA kn kc, e = .returned (.tuple #[.agg #[.int .i64 1, .string ⟨#[104, 105]⟩, .slice LA ln lc, .slice FA fn fc, .slice KA kn kc], .int .i64 7, .int .i64 0]) ∧ Below w.heap.size w w' := by
  have h := dec_1 hiS w (by decide) 1 7 false false ⟨#[104, 105]⟩ hi_0 hi_1
  refine h.mono ?_
  rintro e w' ⟨⟨k, t, LA, ln, lc, l, FA, fn, fc, f, KA, kn, kc, r⟩, he, ⟨h1, h2, -, -, -⟩, -, -, b⟩
  rw [hi_ok, if_pos rfl] at h1 h2
  rw [hi_ok, if_pos rfl, if_pos rfl] at he
  rw [hi_dec] at h1 h2 he
  dsimp only at h1 h2 he
  subst h1 h2
  exact ⟨LA, ln, lc, FA, fn, fc, KA, kn, kc, he, b⟩

set_option maxHeartbeats 2000000 in
theorem awake_calls (w : World) : Calls Try.prog 14 #[] w fun e w' => e = .returned (.bool true) ∧ Below w.heap.size w w' := by
  go_enter Try.func14, Try.ntmps14
  go_wp2_with fail
  refine (hi_enc_calls _).mono ?_
  rintro e w1 ⟨rfl, b1⟩
  go_wp2_with fail
  refine (hi_dec_calls _).mono ?_
  rintro e w2 ⟨LA, ln, lc, FA, fn, fc, KA, kn, kc, rfl, b2⟩
  have x : Bv (w2.alloc (.cells #[.int .i64 1, .string ⟨#[104, 105]⟩, .slice LA ln lc, .slice FA fn fc, .slice KA kn kc] 26)) w2.heap.size 1 ⟨#[104, 105]⟩ (.slice LA ln lc) (.slice FA fn fc) (.slice KA kn kc) := heap_alloc_new w2 _
  obtain ⟨x0, x1, x2, x3, x4⟩ := x.cells
  have B := (b1.trans (b2.mono b1.size)).alloc (b1.trans (b2.mono b1.size)).size (.cells #[.int .i64 1, .string ⟨#[104, 105]⟩, .slice LA ln lc, .slice FA fn fc, .slice KA kn kc] 26)
  clear x b1 b2
  go_wp2_with fail
  all_goals (
    go_ret
    exact ⟨rfl, B⟩)

theorem spa_below {w w' : World} {B : Nat} {y x : VV} (h : Spa w B y x) (hb : Below w.heap.size w w') : Spa w' B y x := by
  obtain ⟨h1, h2, h3, h4, h5, h6, h7, h8, hr, ⟨a, a1, a2, a3, a4⟩, ⟨b, b1, b2, b3, b4⟩, ⟨c, c1, c2, c3, c4⟩⟩ := h
  exact ⟨h1, h2, h3, h4, h5, h6, h7, h8, hr.below hb, ⟨a, a1, a2, a3, cell_b a4 hb⟩, ⟨b, b1, b2, b3, cell_b b4 hb⟩, ⟨c, c1, c2, c3, cell_b c4 hb⟩⟩
theorem spa_sm {w : World} {B : Nat} {y x : VV} (h : Spa w B y x) (hs : Sm x) : Sm y := by
  obtain ⟨h1, h2, h3, h4, h5, h6, h7, h8, -, -, -, -⟩ := h
  obtain ⟨s1, s2, s3, s4, s5, s6, s7, s8⟩ := hs
  exact ⟨by rw [h2]; exact s1, by rw [h6]; exact s2, by rw [h7]; exact s3, by rw [h8]; exact s4, by rw [h3]; exact s5, by rw [h4]; exact s6, by rw [h5]; exact s7, by rw [h5]; exact s8⟩
/-- Values of the same parts. -/
structure Alike (y x : VV) : Prop where
  kind : y.kind = x.kind
  text : y.text = x.text
  list : y.list = x.list
  flds : y.flds = x.flds
  rank : y.rank = x.rank
  ln : y.ln = x.ln
  fn : y.fn = x.fn
  kn : y.kn = x.kn
theorem chk_alike {y x : VV} (h : Alike y x) : chk y = chk x := by
  obtain ⟨h1, h2, h3, h4, h5, h6, h7, h8⟩ := h
  unfold chk isK strayV emptyV rightV
  simp only [h1, h2, h3, h4, h5, h6, h7, h8]
theorem enc_alike {y x : VV} (h : Alike y x) : encV y = encV x := by
  have hc := chk_alike h
  obtain ⟨h1, h2, h3, h4, h5, h6, h7, h8⟩ := h
  unfold encV
  rw [hc]
  unfold bodyV kindB
  simp only [h1, h2, h3, h4, h5, h6, h7, h8]
theorem spa_alike {w : World} {B : Nat} {y x : VV} (h : Spa w B y x) : Alike y x := ⟨h.kind, h.text, h.list, h.flds, h.rank, h.ln, h.fn, h.kn⟩
theorem spa_chk {w : World} {B : Nat} {y x : VV} (h : Spa w B y x) : chk y = chk x := chk_alike (spa_alike h)
theorem spa_enc {w : World} {B : Nat} {y x : VV} (h : Spa w B y x) : encV y = encV x := enc_alike (spa_alike h)
set_option maxHeartbeats 4000000 in
theorem encodes_calls (x : VV) (w : World) (ha : LawV.Arg w x) : Calls Try.prog 3 #[x.val] w fun e w' => e = .returned (.bool true) ∧ Below w.heap.size w w' := by
  have hv : x.val = .agg #[.int .i64 x.kind, .string x.text, .slice x.LA x.ln x.lc, .slice x.FA x.fn x.fc, .slice x.KA x.kn x.kc] := rfl
  have hsp := fun w' (h : Below w.heap.size w w') => spare_calls x w' (ha.rd.below h) ha.sm
  have hre := fun w' (h : Below w.heap.size w w') => encR_calls x w' (ha.rd.below h) ha.sm
  have hkp := fun y w' B (hy : Spa w' B y x) (h : Below w.heap.size w w') => kept_calls y x w' B hy (ha.rd.below h) ha.sm
  rw [hv] at hsp hre ⊢
  simp only [hv] at hkp
  obtain ⟨W0, hW0⟩ : ∃ W0, w.alloc (.cells #[.int .i64 x.kind, .string x.text, .slice x.LA x.ln x.lc, .slice x.FA x.fn x.fc, .slice x.KA x.kn x.kc] 26) = W0 := ⟨_, rfl⟩
  have B0 : Below w.heap.size w W0 := by rw [← hW0]; exact (Below.refl _ w).alloc (Nat.le_refl _) _
  have p0 : Bv W0 w.heap.size x.kind x.text (.slice x.LA x.ln x.lc) (.slice x.FA x.fn x.fc) (.slice x.KA x.kn x.kc) := by
    rw [← hW0]; exact heap_alloc_new w _
  have S0 : W0.heap.size = w.heap.size + 1 := by rw [← hW0]; simp
  have H0 := Lib.hid hW0
  clear hW0
  obtain ⟨x0, x1, x2, x3, x4⟩ := p0.cells
  have HS0 := Lib.hid S0
  clear S0
  go_enter Try.func3, Try.ntmps3
  go_wp2_with fail
  rw [H0.out]
  go_wp2_with fail
  refine (hsp W0 B0).mono ?_
  rintro e w1 ⟨y, rfl, sp1, b1⟩
  have B1 := B0.trans (b1.mono B0.size)
  have P1 : Bv w1 w.heap.size x.kind x.text (.slice x.LA x.ln x.lc) (.slice x.FA x.fn x.fc) (.slice x.KA x.kn x.kc) := Bv.below p0 b1
  obtain ⟨W2, hW2⟩ : ∃ W2, w1.alloc (.cells #[.int .i64 y.kind, .string y.text, .slice y.LA y.ln y.lc, .slice y.FA y.fn y.fc, .slice y.KA y.kn y.kc] 26) = W2 := ⟨_, rfl⟩
  have b2 : Below w1.heap.size w1 W2 := by rw [← hW2]; exact (Below.refl _ w1).alloc (Nat.le_refl _) _
  have q2 : Bv W2 w1.heap.size y.kind y.text (.slice y.LA y.ln y.lc) (.slice y.FA y.fn y.fc) (.slice y.KA y.kn y.kc) := by
    rw [← hW2]; exact heap_alloc_new w1 _
  have p2 := Bv.below P1 b2
  have sp2 := spa_below sp1 b2
  have B2 := B1.trans (b2.mono B1.size)
  have hyv : y.val = .agg #[.int .i64 y.kind, .string y.text, .slice y.LA y.ln y.lc, .slice y.FA y.fn y.fc, .slice y.KA y.kn y.kc] := rfl
  have hen := fun w' (h : Below W2.heap.size W2 w') => encode_calls y w' (sp2.rd.below h) (spa_sm sp2 ha.sm)
  have hkp' := fun w' (h : Below W2.heap.size W2 w') => hkp y w' _ (spa_below sp2 h) (B2.trans (h.mono B2.size))
  have hee : encV y = encV x := spa_enc sp2
  have hcc : chk y = chk x := spa_chk sp2
  rw [hee, hcc] at hen
  rw [hyv] at hen ⊢
  simp only [hyv] at hkp'
  have H2 := Lib.hid hW2
  clear hW2 sp1 sp2 P1 p0 hee hcc hkp hsp x0 x1 x2 x3 x4 b1 b2
  obtain ⟨x0, x1, x2, x3, x4⟩ := p2.cells
  obtain ⟨y0, y1, y2, y3, y4⟩ := q2.cells
  go_wp2_with fail
  rw [H2.out]
  go_wp2_with fail
  refine (hen W2 (Below.refl _ _)).mono ?_
  rintro e w3 ⟨rfl, b3⟩
  clear x0 x1 x2 x3 x4 y0 y1 y2 y3 y4
  have B3 := B2.trans (b3.mono B2.size)
  have p3 := Bv.below p2 b3
  have q3 := Bv.below q2 b3
  clear p2 q2
  obtain ⟨x0, x1, x2, x3, x4⟩ := p3.cells
  go_wp2_with fail
  refine (hre w3 B3).mono ?_
  rintro e w4 ⟨rfl, b4⟩
  have B4 := B3.trans (b4.mono B3.size)
  have p4 := Bv.below p3 b4
  have q4 := Bv.below q3 b4
  have b34 := b3.trans (b4.mono b3.size)
  clear p3 q3 x0 x1 x2 x3 x4
  obtain ⟨x0, x1, x2, x3, x4⟩ := p4.cells
  obtain ⟨y0, y1, y2, y3, y4⟩ := q4.cells
  obtain ⟨E, hE⟩ : ∃ E, (encV x).toArray = E := ⟨_, rfl⟩
  obtain ⟨C, hC⟩ : ∃ C, chk x = C := ⟨_, rfl⟩
  rw [hE, hC]
  clear hE hC hen hre
  go_wp2_with fail
  refine (hkp' w4 b34).mono ?_
  rintro e w5 ⟨rfl, b5⟩
  have B5 := B4.trans (b5.mono B4.size)
  go_wp2_with fail
  refine (awake_calls w5).mono ?_
  rintro e w6 ⟨rfl, b6⟩
  go_wp2_with fail
  go_ret
  exact ⟨rfl, B5.trans (b6.mono B5.size)⟩
end Go.Proofs.Ythglmpkcfigelaa.VbE
