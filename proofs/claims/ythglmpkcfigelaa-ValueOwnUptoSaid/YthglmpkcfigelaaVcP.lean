/-
  The walk of ValueSames. Conditions: as stated.
-/
import Derived.Test.YthglmpkcfigelaaVcO
import Derived.Test.YthglmpkcfigelaaVcN
set_option maxRecDepth 100000
set_option linter.unusedSimpArgs false
set_option linter.unusedVariables false
namespace Go.Proofs.Ythglmpkcfigelaa.VcP
open Go.RowKit Go.Proofs.Ythglmpkcfigelaa.Mem Go.Proofs.Ythglmpkcfigelaa.VaA Go.Proofs.Ythglmpkcfigelaa.VaC Go.Proofs.Ythglmpkcfigelaa.VaH Go.Proofs.Ythglmpkcfigelaa.VaI Go.Proofs.Ythglmpkcfigelaa.VaL Go.Proofs.Ythglmpkcfigelaa.VaN Go.Proofs.Ythglmpkcfigelaa.VaS Go.Proofs.Ythglmpkcfigelaa.VaT Go.Proofs.Ythglmpkcfigelaa.VaV Go.Proofs.Ythglmpkcfigelaa.VaW Go.Proofs.Ythglmpkcfigelaa.VaX Go.Proofs.Ythglmpkcfigelaa.VaY Go.Proofs.Ythglmpkcfigelaa.VbB Go.Proofs.Ythglmpkcfigelaa.VbE Go.Proofs.Ythglmpkcfigelaa.VcN Go.Proofs.Ythglmpkcfigelaa.VcO

theorem copyR_same (x : VV) (w : World) (hr : RdV w x) (hs : Sm x) : Calls Try.prog 28 #[x.val] w fun e w' => ∃ y : VV, e = .returned y.val ∧ sameV x y = true ∧ RdV w' y ∧ Below w.heap.size w w' := by
  refine (copyR_calls x w hr hs).mono ?_
  rintro e w' ⟨A1, c1, A3, c3, A5, c5, b2, b3, rfl, hb, ho⟩
  have l1 : x.list.length = x.ln := rds_len hr.l
  have l2 : x.flds.length = x.fn := rdf_len hr.f
  have l3 : x.rank.length = x.kn := rdk_len hr.k
  have o1 := ho.l
  have o2 := ho.f
  have o3 := ho.k
  unfold OwnS at o1
  unfold OwnF at o2
  unfold OwnK at o3
  rw [l1] at o1
  rw [l2] at o2
  rw [l3] at o3
  exact ⟨{ x with LA := A1, lc := c1, FA := A3, fc := c3, KA := A5, kc := c5 }, rfl, decide_eq_true ⟨rfl, rfl, rfl, rfl, rfl⟩, ⟨Rd.of_own o1, Rd.of_own o2, Rd.of_own o3⟩, hb⟩
theorem copy_same (x : VV) (w : World) (hr : RdV w x) (hs : Sm x) : Calls Try.prog 20 #[x.val] w fun e w' => ∃ y : VV, e = .returned y.val ∧ sameV y x = true ∧ RdV w' y ∧ Below w.heap.size w w' := by
  refine (copy_calls x w hr hs).mono ?_
  rintro e w' ⟨y, rfl, h1, h2, h3, h4, h5, hr, -, hb⟩
  exact ⟨y, rfl, decide_eq_true ⟨h1, h2, h3, h4, h5⟩, hr, hb⟩

set_option maxHeartbeats 8000000 in
theorem sames_calls (x z : VV) (w : World) (ha : LawV.Arg w x) (hz : LawV.Arg w z) : Calls Try.prog 9 #[x.val, z.val] w fun e w' => e = .returned (.bool true) ∧ Below w.heap.size w w' := by
  have hv : x.val = .agg #[.int .i64 x.kind, .string x.text, .slice x.LA x.ln x.lc, .slice x.FA x.fn x.fc, .slice x.KA x.kn x.kc] := rfl
  have hvz : z.val = .agg #[.int .i64 z.kind, .string z.text, .slice z.LA z.ln z.lc, .slice z.FA z.fn z.fc, .slice z.KA z.kn z.kc] := rfl
  have hp := fun w' (h : Below w.heap.size w w') => sameP_calls x z w' (ha.rd.below h) (hz.rd.below h)
  have hq := fun w' (h : Below w.heap.size w w') => sameR_calls x z w' (ha.rd.below h) (hz.rd.below h)
  have hcr := fun w' (h : Below w.heap.size w w') => copyR_same x w' (ha.rd.below h) ha.sm
  have hcp := fun w' (h : Below w.heap.size w w') => copy_same x w' (ha.rd.below h) ha.sm
  have hp' : ∀ (y : VV) (w' : World), Below w.heap.size w w' → RdV w' y → sameV x y = true → Calls Try.prog 19 #[x.val, y.val] w' fun e w'' => e = .returned (.bool true) ∧ Below w'.heap.size w' w'' := fun y w' h hy he => by
    have h := sameP_calls x y w' (ha.rd.below h) hy
    rwa [he] at h
  have hq' : ∀ (y : VV) (w' : World), Below w.heap.size w w' → RdV w' y → sameV y x = true → Calls Try.prog 17 #[y.val, x.val] w' fun e w'' => e = .returned (.bool true) ∧ Below w'.heap.size w' w'' := fun y w' h hy he => by
    have h := sameR_calls y x w' hy (ha.rd.below h)
    rwa [he] at h
  obtain ⟨S, hS⟩ : ∃ S, sameV x z = S := ⟨_, rfl⟩
  rw [hS] at hp hq
  rw [hv] at hp hq hcr hcp hp' hq' ⊢
  rw [hvz] at hp hq ⊢
  obtain ⟨W0, hW0⟩ : ∃ W0, (w.alloc (.cells #[.int .i64 x.kind, .string x.text, .slice x.LA x.ln x.lc, .slice x.FA x.fn x.fc, .slice x.KA x.kn x.kc] 26)).alloc (.cells #[.int .i64 z.kind, .string z.text, .slice z.LA z.ln z.lc, .slice z.FA z.fn z.fc, .slice z.KA z.kn z.kc] 26) = W0 := ⟨_, rfl⟩
  have B0 : Below w.heap.size w W0 := by rw [← hW0]; exact ((Below.refl _ w).alloc (Nat.le_refl _) _).alloc (by simp) _
  have p0 : Bv W0 w.heap.size x.kind x.text (.slice x.LA x.ln x.lc) (.slice x.FA x.fn x.fc) (.slice x.KA x.kn x.kc) := by
    rw [← hW0]
    exact ((Only.refl (fun _ => False) (w.alloc _)).alloc _).heap (heap_alloc_new w _) id
  have q0 : Bv W0 (w.heap.size + 1) z.kind z.text (.slice z.LA z.ln z.lc) (.slice z.FA z.fn z.fc) (.slice z.KA z.kn z.kc) := by
    rw [← hW0]
    have h := heap_alloc_new (w.alloc (.cells #[.int .i64 x.kind, .string x.text, .slice x.LA x.ln x.lc, .slice x.FA x.fn x.fc, .slice x.KA x.kn x.kc] 26)) (.cells #[.int .i64 z.kind, .string z.text, .slice z.LA z.ln z.lc, .slice z.FA z.fn z.fc, .slice z.KA z.kn z.kc] 26)
    rw [World.size_alloc] at h
    exact h
  have H0 := Lib.hid hW0
  have HS := s2_of p0 q0
  clear hW0 p0 q0 hS
  have up := fun w' (h : Below W0.heap.size W0 w') => B0.trans (h.mono B0.size)
  go_enter Try.func9, Try.ntmps9
  go_upto_region 1 with fail
  rw [H0.out]
  go_region_held3 (fun w' => S2 W0 w.heap.size (w.heap.size + 1) x.kind x.text (.slice x.LA x.ln x.lc) (.slice x.FA x.fn x.fc) (.slice x.KA x.kn x.kc) z.kind z.text (.slice z.LA z.ln z.lc) (.slice z.FA z.fn z.fc) (.slice z.KA z.kn z.kc) w')
    (first | exact s2_drew HS | assumption | exact s2_below (by assumption) (by assumption))
    (first
      | (go_at_call 28; refine (hcr _ (up _ (And.left (‹S2 W0 _ _ _ _ _ _ _ _ _ _ _ _ _›)))).mono ?_; rintro e w5 ⟨yc, rfl, sc, rc, hb5⟩)
      | (go_at_call 20; refine (hcp _ (up _ (And.left (‹S2 W0 _ _ _ _ _ _ _ _ _ _ _ _ _›)))).mono ?_; rintro e w5 ⟨yd, rfl, sd, rd, hb5⟩)
      | (go_at_call 19; refine (hp' yc _ (up _ (And.left (‹S2 W0 _ _ _ _ _ _ _ _ _ _ _ _ _›))) rc sc).mono ?_; rintro e w5 ⟨rfl, hb5⟩)
      | (go_at_call 17; refine (hq' yd _ (up _ (And.left (‹S2 W0 _ _ _ _ _ _ _ _ _ _ _ _ _›))) rd sd).mono ?_; rintro e w5 ⟨rfl, hb5⟩)
      | (go_at_call 19; refine (hp _ (up _ (And.left (‹S2 W0 _ _ _ _ _ _ _ _ _ _ _ _ _›)))).mono ?_; rintro e w5 ⟨rfl, hb5⟩)
      | (go_at_call 17; refine (hq _ (up _ (And.left (‹S2 W0 _ _ _ _ _ _ _ _ _ _ _ _ _›)))).mono ?_; rintro e w5 ⟨rfl, hb5⟩)
      | (go_at_call 14; refine (awake_calls _).mono ?_; rintro e w5 ⟨rfl, hb5⟩))
  all_goals (
    have hK := And.left (‹S2 W0 _ _ _ _ _ _ _ _ _ _ _ _ _›)
    go_wp2_with fail
    go_ret
    exact ⟨rfl, up _ hK⟩)
end Go.Proofs.Ythglmpkcfigelaa.VcP
