/-
  Both decoders, whatever the bytes. Conditions: as stated.
-/
import Derived.Test.YthglmpkcfigelaaVbD
import Derived.Test.YthglmpkcfigelaaVcA
import Derived.Test.YthglmpkcfigelaaVcB
import Derived.Test.YthglmpkcfigelaaVcC
import Derived.Test.YthglmpkcfigelaaVcD
import Derived.Test.YthglmpkcfigelaaVcE
import Derived.Test.YthglmpkcfigelaaVcF
import Derived.Test.YthglmpkcfigelaaVcG
import Derived.Test.YthglmpkcfigelaaVcH
import Derived.Test.YthglmpkcfigelaaVcI
import Derived.Test.YthglmpkcfigelaaVcJ
import Derived.Test.YthglmpkcfigelaaVcK
set_option linter.unusedSimpArgs false
set_option linter.unusedVariables false
namespace Go.Proofs.Ythglmpkcfigelaa.VcL
open Go.RowKit Go.Proofs.Ythglmpkcfigelaa.Mem Go.Proofs.Ythglmpkcfigelaa.VaA Go.Proofs.Ythglmpkcfigelaa.VaC Go.Proofs.Ythglmpkcfigelaa.VaH Go.Proofs.Ythglmpkcfigelaa.VaP Go.Proofs.Ythglmpkcfigelaa.VaQ Go.Proofs.Ythglmpkcfigelaa.VbA Go.Proofs.Ythglmpkcfigelaa.VbB

theorem rnum_lt (s : ByteArray) (W : Nat) (p : Nat × Bool) : (rnum s W p).1 < 256 ^ W := by
  unfold rnum
  split
  · exact Nat.pow_pos (by decide)
  · refine Nat.lt_of_lt_of_le (unle_lt _) (Nat.pow_le_pow_right (by decide) ?_)
    rw [List.length_take]; exact Nat.min_le_left _ _

theorem dec_calls (s : ByteArray) (w : World) (hs : s.size ≤ 100000000) : Calls Try.prog 15 #[.string s] w (DecPost s w (decD s)) := by
  obtain ⟨K, k0, b0, h0⟩ : ∃ K k0 b0, rnum s 1 (0, false) = (K, (k0, b0)) := ⟨_, _, _, rfl⟩
  obtain ⟨N, k1, b1, h1⟩ : ∃ N k1 b1, rnum s 4 (k0, b0) = (N, (k1, b1)) := ⟨_, _, _, rfl⟩
  have hK := rnum_lt s 1 (0, false)
  have hN := rnum_lt s 4 (k0, b0)
  rw [h0] at hK
  rw [h1] at hN
  simp only [Nat.pow_one, show (256 : Nat) ^ 4 = 4294967296 from rfl] at hK hN
  by_cases e1 : K = 1
  · subst e1
    obtain ⟨t, k2, b2, h2⟩ : ∃ t k2 b2, rtxt s (k0, b0) = (t, (k2, b2)) := ⟨_, _, _, rfl⟩
    exact VbD.dec_1 s w hs _ _ _ _ _ h0 h2
  by_cases e2 : K = 2
  · subst e2; exact VcA.dec_2 s w hs _ _ _ _ _ h0 h1 (by omega)
  by_cases e4 : K = 4
  · subst e4; exact VcB.dec_4 s w hs _ _ _ _ _ h0 h1 (by omega)
  by_cases e3 : K = 3
  · subst e3; exact VcC.dec_3 s w hs _ _ _ _ _ h0 h1 (by omega)
  by_cases e5 : K = 5
  · subst e5; exact VcD.dec_5 s w hs _ _ _ _ _ h0 h1 (by omega)
  exact VcE.dec_0 s w hs K ⟨e1, e2, e3, e4, e5⟩ (by omega) _ _ _ _ _ h0 h1 (by omega)
theorem decR_calls (s : ByteArray) (w : World) (hs : s.size ≤ 100000000) : Calls Try.prog 16 #[.string s] w (DecPost s w (decD s)) := by
  obtain ⟨K, k0, b0, h0⟩ : ∃ K k0 b0, rnum s 1 (0, false) = (K, (k0, b0)) := ⟨_, _, _, rfl⟩
  obtain ⟨N, k1, b1, h1⟩ : ∃ N k1 b1, rnum s 4 (k0, b0) = (N, (k1, b1)) := ⟨_, _, _, rfl⟩
  have hK := rnum_lt s 1 (0, false)
  have hN := rnum_lt s 4 (k0, b0)
  rw [h0] at hK
  rw [h1] at hN
  simp only [Nat.pow_one, show (256 : Nat) ^ 4 = 4294967296 from rfl] at hK hN
  by_cases e1 : K = 1
  · subst e1
    obtain ⟨t, k2, b2, h2⟩ : ∃ t k2 b2, rtxt s (k0, b0) = (t, (k2, b2)) := ⟨_, _, _, rfl⟩
    exact VcK.decR_1 s w hs _ _ _ _ _ h0 h2
  by_cases e2 : K = 2
  · subst e2; exact VcF.decR_2 s w hs _ _ _ _ _ h0 h1 (by omega)
  by_cases e4 : K = 4
  · subst e4; exact VcG.decR_4 s w hs _ _ _ _ _ h0 h1 (by omega)
  by_cases e3 : K = 3
  · subst e3; exact VcH.decR_3 s w hs _ _ _ _ _ h0 h1 (by omega)
  by_cases e5 : K = 5
  · subst e5; exact VcI.decR_5 s w hs _ _ _ _ _ h0 h1 (by omega)
  exact VcJ.decR_0 s w hs K ⟨e1, e2, e3, e4, e5⟩ (by omega) _ _ _ _ _ h0 h1 (by omega)
end Go.Proofs.Ythglmpkcfigelaa.VcL
