/-
  What lay ahead of a call is as it was, the marks behind its lists too. Conditions: as stated.
-/
import Derived.Test.YthglmpkcfigelaaVaX
import Derived.Test.YthglmpkcfigelaaVaW
import Derived.Deep.RegionHeld3
set_option maxRecDepth 100000
set_option linter.unusedSimpArgs false
set_option linter.unusedVariables false
namespace Go.Proofs.Ythglmpkcfigelaa.VaY
open Go.RowKit Go.Proofs.Ythglmpkcfigelaa.Mem Go.Proofs.Ythglmpkcfigelaa.VaA Go.Proofs.Ythglmpkcfigelaa.VaB Go.Proofs.Ythglmpkcfigelaa.VaC Go.Proofs.Ythglmpkcfigelaa.VaE Go.Proofs.Ythglmpkcfigelaa.VaH Go.Proofs.Ythglmpkcfigelaa.VaI Go.Proofs.Ythglmpkcfigelaa.VaU Go.Proofs.Ythglmpkcfigelaa.VaX Go.Proofs.Ythglmpkcfigelaa.VaW

/-- The cells of both boxes, and the marks. -/
abbrev Kp (w0 : World) (g : Nat) (k : Int) (t : ByteArray) (b b' b'' ln fn kn c c' c'' : Nat) (LA FA KA : Option Addr) (lc fc kc : Nat) (w' : World) : Prop :=
  Below w0.heap.size w0 w' ∧ (w'.cell? ⟨g, 0, none⟩ = some (.int .i64 k) ∧ w'.cell? ⟨g, 1, none⟩ = some (.string t) ∧ w'.cell? ⟨g, 2, none⟩ = some (.slice (some ⟨b, 0, none⟩) ln c) ∧ w'.cell? ⟨g, 3, none⟩ = some (.slice (some ⟨b', 0, none⟩) fn c') ∧ w'.cell? ⟨g, 4, none⟩ = some (.slice (some ⟨b'', 0, none⟩) kn c'')) ∧
  (w'.cell? ⟨g + 1, 0, none⟩ = some (.int .i64 k) ∧ w'.cell? ⟨g + 1, 1, none⟩ = some (.string t) ∧ w'.cell? ⟨g + 1, 2, none⟩ = some (.slice LA ln lc) ∧ w'.cell? ⟨g + 1, 3, none⟩ = some (.slice FA fn fc) ∧ w'.cell? ⟨g + 1, 4, none⟩ = some (.slice KA kn kc)) ∧
  (w'.cell? ⟨b, ln, none⟩ = some (.string spB) ∧ w'.cell? ⟨b', fn * 2, none⟩ = some (.string spB) ∧ w'.cell? ⟨b'', kn * 2 + 1, none⟩ = some (.int .i64 77))
theorem cell_b {w w' : World} {q : Addr} {u : Value} (hc : w.cell? q = some u) (hb : Below w.heap.size w w') : w'.cell? q = some u := VaM.cell_b hc hb
section
variable {w0 w w' : World} {g : Nat} {k : Int} {t : ByteArray} {b b' b'' ln fn kn c c' c'' : Nat} {LA FA KA : Option Addr} {lc fc kc : Nat}
theorem kp_below (h : Kp w0 g k t b b' b'' ln fn kn c c' c'' LA FA KA lc fc kc w) (hb : Below w.heap.size w w') : Kp w0 g k t b b' b'' ln fn kn c c' c'' LA FA KA lc fc kc w' :=
  ⟨h.1.trans (hb.mono h.1.size), ⟨cell_b h.2.1.1 hb, cell_b h.2.1.2.1 hb, cell_b h.2.1.2.2.1 hb, cell_b h.2.1.2.2.2.1 hb, cell_b h.2.1.2.2.2.2 hb⟩, ⟨cell_b h.2.2.1.1 hb, cell_b h.2.2.1.2.1 hb, cell_b h.2.2.1.2.2.1 hb, cell_b h.2.2.1.2.2.2.1 hb, cell_b h.2.2.1.2.2.2.2 hb⟩, cell_b h.2.2.2.1 hb, cell_b h.2.2.2.2.1 hb, cell_b h.2.2.2.2.2 hb⟩
theorem kp_drew (h : Kp w0 g k t b b' b'' ln fn kn c c' c'' LA FA KA lc fc kc w) : Kp w0 g k t b b' b'' ln fn kn c c' c'' LA FA KA lc fc kc w.drew := kp_below h ((Below.refl _ _).drew)
end

set_option maxHeartbeats 8000000 in
theorem kept_calls (y x : VV) (w : World) (B : Nat) (hy : Spa w B y x) (hx : RdV w x) (hs : Sm x) :
    Calls Try.prog 13 #[y.val, x.val] w fun e w' => e = .returned (.bool true) ∧ Below w.heap.size w w' := by
  have hsm : sameV y x = true := decide_eq_true ⟨hy.kind, hy.text, hy.list, hy.flds, hy.rank⟩
  have hcall := fun w' (h : Below w.heap.size w w') => sameR_calls y x w' ⟨hy.rd.l.below h, hy.rd.f.below h, hy.rd.k.below h⟩ ⟨hx.l.below h, hx.f.below h, hx.k.below h⟩
  rw [hsm] at hcall
  obtain ⟨b, eL, -, hc, mL⟩ := hy.al
  obtain ⟨b', eF, -, hc', mF⟩ := hy.af
  obtain ⟨b'', eK, -, hc'', mK⟩ := hy.ak
  have a1 := hs.ln
  have a2 := hs.fn
  have a3 := hs.kn
  have gc : y.lc ≤ maxLen := hy.rd.l.big
  have gc' : y.fc ≤ maxLen := hy.rd.f.big
  have gc'' : y.kc ≤ maxLen := hy.rd.k.big
  unfold maxLen at gc gc' gc''
  have hv : y.val = .agg #[.int .i64 x.kind, .string x.text, .slice (some ⟨b, 0, none⟩) x.ln y.lc, .slice (some ⟨b', 0, none⟩) x.fn y.fc, .slice (some ⟨b'', 0, none⟩) x.kn y.kc] := by
    unfold VV.val; rw [hy.kind, hy.text, eL, eF, eK, hy.ln, hy.fn, hy.kn]
  rw [hv] at hcall ⊢
  obtain ⟨k, t, LA, ln, lc, l, FA, fn, fc, f, KA, kn, kc, r⟩ := x
  generalize y.lc = c at *
  generalize y.fc = c' at *
  generalize y.kc = c'' at *
  dsimp only [VV.val] at hcall hc hc' hc'' mL mF mK a1 a2 a3 ⊢
  clear hv eL eF eK hx hs hsm hy
  obtain ⟨W0, hW0⟩ : ∃ W0, (w.alloc (.cells #[.int .i64 k, .string t, .slice (some ⟨b, 0, none⟩) ln c, .slice (some ⟨b', 0, none⟩) fn c', .slice (some ⟨b'', 0, none⟩) kn c''] 26)).alloc (.cells #[.int .i64 k, .string t, .slice LA ln lc, .slice FA fn fc, .slice KA kn kc] 26) = W0 := ⟨_, rfl⟩
  have B0 : Below w.heap.size w W0 := by rw [← hW0]; exact ((Below.refl _ w).alloc (Nat.le_refl _) _).alloc (by simp) _
  have p0 : W0.heap[w.heap.size]? = some (.cells #[.int .i64 k, .string t, .slice (some ⟨b, 0, none⟩) ln c, .slice (some ⟨b', 0, none⟩) fn c', .slice (some ⟨b'', 0, none⟩) kn c''] 26 (0, 0)) := by
    rw [← hW0]
    exact ((Only.refl (fun _ => False) (w.alloc _)).alloc _).heap (heap_alloc_new w _) id
  have q0 : W0.heap[w.heap.size + 1]? = some (.cells #[.int .i64 k, .string t, .slice LA ln lc, .slice FA fn fc, .slice KA kn kc] 26 (0, 0)) := by
    rw [← hW0]
    have h := heap_alloc_new (w.alloc (.cells #[.int .i64 k, .string t, .slice (some ⟨b, 0, none⟩) ln c, .slice (some ⟨b', 0, none⟩) fn c', .slice (some ⟨b'', 0, none⟩) kn c''] 26)) (.cells #[.int .i64 k, .string t, .slice LA ln lc, .slice FA fn fc, .slice KA kn kc] 26)
    rw [World.size_alloc] at h
    exact h
  have HS : Kp W0 w.heap.size k t b b' b'' ln fn kn c c' c'' LA FA KA lc fc kc W0 := ⟨Below.refl _ _, box5c p0, box5c q0, cell_b mL B0, cell_b mF B0, cell_b mK B0⟩
  have H0 := Lib.hid hW0
  clear hW0 p0 q0 mL mF mK
  have v1 : IntKind.i64.wrap ((ln : Int) + 1) = (ln : Int) + 1 := Go.IntWalk.i64_in _ (by omega)
  have v2 : IntKind.i64.wrap ((fn : Int) + 1) = (fn : Int) + 1 := Go.IntWalk.i64_in _ (by omega)
  have v3 : IntKind.i64.wrap ((kn : Int) + 1) = (kn : Int) + 1 := Go.IntWalk.i64_in _ (by omega)
  have i1 : (ln : Int) + 1 ≤ (c : Int) := by omega
  have i2 : (fn : Int) + 1 ≤ (c' : Int) := by omega
  have i3 : (kn : Int) + 1 ≤ (c'' : Int) := by omega
  obtain ⟨G1, hG1⟩ : ∃ G, G = ln + 1 := ⟨_, rfl⟩
  have j1 : ((ln : Int) + 1).toNat = G1 := by omega
  have k1 : (ln : Int) < (G1 : Int) := by omega
  have o1 : (0 : Int) ≤ (ln : Int) := by omega
  clear hG1
  obtain ⟨G2, hG2⟩ : ∃ G, G = fn + 1 := ⟨_, rfl⟩
  have j2 : ((fn : Int) + 1).toNat = G2 := by omega
  have k2 : (fn : Int) < (G2 : Int) := by omega
  have o2 : (0 : Int) ≤ (fn : Int) := by omega
  clear hG2
  obtain ⟨G3, hG3⟩ : ∃ G, G = kn + 1 := ⟨_, rfl⟩
  have j3 : ((kn : Int) + 1).toNat = G3 := by omega
  have k3 : (kn : Int) < (G3 : Int) := by omega
  have o3 : (0 : Int) ≤ (kn : Int) := by omega
  clear hG3
  have l1 : (0 : Int) ≤ (ln : Int) + 1 := by omega
  have l2 : (0 : Int) ≤ (fn : Int) + 1 := by omega
  have l3 : (0 : Int) ≤ (kn : Int) + 1 := by omega
  go_enter Try.func13, Try.ntmps13
  go_wp2_with fail
  rw [H0.out]
  go_region_held3 (fun w' => Kp W0 w.heap.size k t b b' b'' ln fn kn c c' c'' LA FA KA lc fc kc w')
    (first | exact kp_drew HS | assumption | exact kp_below (by assumption) (by assumption))
    (first
      | (go_at_call 17; refine (hcall _ (B0.drew)).mono ?_; rintro e w5 ⟨rfl, hb5⟩))
  all_goals (
    obtain ⟨hK, -⟩ := (‹Kp W0 w.heap.size k t b b' b'' ln fn kn c c' c'' LA FA KA lc fc kc _›)
    go_wp2_with fail
    go_ret
    exact ⟨rfl, B0.trans (hK.mono B0.size)⟩)
end Go.Proofs.Ythglmpkcfigelaa.VaY
