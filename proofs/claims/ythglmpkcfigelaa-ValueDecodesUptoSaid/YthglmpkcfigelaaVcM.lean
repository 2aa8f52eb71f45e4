/-
  The walk of ValueDecodes. Conditions: as stated.
-/
import Derived.Test.YthglmpkcfigelaaVcL
import Derived.Test.YthglmpkcfigelaaVbE
set_option maxRecDepth 100000
set_option linter.unusedSimpArgs false
set_option linter.unusedVariables false
namespace Go.Proofs.Ythglmpkcfigelaa.VcM
open Go.RowKit Go.Proofs.Ythglmpkcfigelaa.Mem Go.Proofs.Ythglmpkcfigelaa.VaA Go.Proofs.Ythglmpkcfigelaa.VaC Go.Proofs.Ythglmpkcfigelaa.VaH Go.Proofs.Ythglmpkcfigelaa.VaI Go.Proofs.Ythglmpkcfigelaa.VaL Go.Proofs.Ythglmpkcfigelaa.VaT Go.Proofs.Ythglmpkcfigelaa.VaW Go.Proofs.Ythglmpkcfigelaa.VaX Go.Proofs.Ythglmpkcfigelaa.VaY Go.Proofs.Ythglmpkcfigelaa.VbA Go.Proofs.Ythglmpkcfigelaa.VbB Go.Proofs.Ythglmpkcfigelaa.VbE Go.Proofs.Ythglmpkcfigelaa.VcL

set_option maxHeartbeats 4000000 in
theorem decodes_calls (s : ByteArray) (hs : s.size ≤ 1048576) (w : World) : Calls Try.prog 4 #[.string s] w fun e w' => e = .returned (.bool true) ∧ Below w.heap.size w w' := by
  have h1 := fun w' => dec_calls s w' (by omega)
  have h2 := fun w' => decR_calls s w' (by omega)
  go_enter Try.func4, Try.ntmps4
  go_wp2_with fail
  refine (h1 w).mono ?_
  rintro e w1 ⟨y, rfl, ⟨p1, p2, p3, p4, p5⟩, r1, -, b1⟩
  obtain ⟨N, hN⟩ : ∃ N, (if (decD s).ok = true then ((decD s).st.k : Int) else 0) = N := ⟨_, rfl⟩
  obtain ⟨E, hE⟩ : ∃ E, (if (decD s).ok = true then (0 : Int) else 132) = E := ⟨_, rfl⟩
  rw [hN, hE]
  have HN := Lib.hid (And.intro hN hE)
  clear hN hE h1
  have hyv : y.val = .agg #[.int .i64 y.kind, .string y.text, .slice y.LA y.ln y.lc, .slice y.FA y.fn y.fc, .slice y.KA y.kn y.kc] := rfl
  rw [hyv]
  obtain ⟨W2, hW2⟩ : ∃ W2, w1.alloc (.cells #[.int .i64 y.kind, .string y.text, .slice y.LA y.ln y.lc, .slice y.FA y.fn y.fc, .slice y.KA y.kn y.kc] 26) = W2 := ⟨_, rfl⟩
  have b2 : Below w1.heap.size w1 W2 := by rw [← hW2]; exact (Below.refl _ w1).alloc (Nat.le_refl _) _
  have q2 : Bv W2 w1.heap.size y.kind y.text (.slice y.LA y.ln y.lc) (.slice y.FA y.fn y.fc) (.slice y.KA y.kn y.kc) := by
    rw [← hW2]; exact heap_alloc_new w1 _
  have B2 := b1.trans (b2.mono b1.size)
  have r2 := r1.below b2
  have H2 := Lib.hid hW2
  have HP := Lib.hid (And.intro p1 (And.intro p2 (And.intro p3 (And.intro p4 p5))))
  clear hW2 r1 p1 p2 p3 p4 p5
  go_wp2_with fail
  rw [H2.out]
  refine (h2 W2).mono ?_
  rintro e w3 ⟨z, rfl, ⟨p1, p2, p3, p4, p5⟩, r3, -, b3⟩
  obtain ⟨hN, hE⟩ := HN.out
  rw [hN, hE]
  clear hN hE h2 HN
  have hzv : z.val = .agg #[.int .i64 z.kind, .string z.text, .slice z.LA z.ln z.lc, .slice z.FA z.fn z.fc, .slice z.KA z.kn z.kc] := rfl
  rw [hzv]
  obtain ⟨W4, hW4⟩ : ∃ W4, w3.alloc (.cells #[.int .i64 z.kind, .string z.text, .slice z.LA z.ln z.lc, .slice z.FA z.fn z.fc, .slice z.KA z.kn z.kc] 26) = W4 := ⟨_, rfl⟩
  have b4 : Below w3.heap.size w3 W4 := by rw [← hW4]; exact (Below.refl _ w3).alloc (Nat.le_refl _) _
  have q4 : Bv W4 w3.heap.size z.kind z.text (.slice z.LA z.ln z.lc) (.slice z.FA z.fn z.fc) (.slice z.KA z.kn z.kc) := by
    rw [← hW4]; exact heap_alloc_new w3 _
  have B34 := b3.trans (b4.mono b3.size)
  have B4 := B2.trans (B34.mono B2.size)
  have r4 := r3.below b4
  have r24 := r2.below B34
  have q24 := Bv.below q2 B34
  have hsm : sameV y z = true := by
    obtain ⟨o1, o2, o3, o4, o5⟩ := HP.out
    exact decide_eq_true ⟨o1.trans p1.symm, o2.trans p2.symm, o3.trans p3.symm, o4.trans p4.symm, o5.trans p5.symm⟩
  have hcall := sameR_calls y z W4 r24 r4
  rw [hsm, hyv, hzv] at hcall
  subst hW4
  clear r3 p1 p2 p3 p4 p5 hsm r4 r24 hyv hzv
  obtain ⟨x0, x1, x2, x3, x4⟩ := q24.cells
  obtain ⟨y0, y1, y2, y3, y4⟩ := q4.cells
  go_wp2_with fail
  refine hcall.mono ?_
  rintro e w5 ⟨rfl, b5⟩
  have B5 := B4.trans (b5.mono B4.size)
  go_wp2_with fail
  refine (awake_calls w5).mono ?_
  rintro e w6 ⟨rfl, b6⟩
  go_wp2_with fail
  go_ret
  exact ⟨rfl, B5.trans (b6.mono B5.size)⟩
end Go.Proofs.Ythglmpkcfigelaa.VcM
