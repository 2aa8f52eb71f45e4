/-
  The program's reading of a value of kind that is none. Conditions: as stated.
-/
import Derived.Test.YthglmpkcfigelaaVbB
import Derived.Test.YthglmpkcfigelaaVaU
set_option maxRecDepth 100000
set_option linter.unusedSimpArgs false
set_option linter.unusedVariables false
namespace Go.Proofs.Ythglmpkcfigelaa.VcE
open Go.RowKit Go.Proofs.Ythglmpkcfigelaa.Mem Go.Proofs.Ythglmpkcfigelaa.VaA Go.Proofs.Ythglmpkcfigelaa.VaC Go.Proofs.Ythglmpkcfigelaa.VaH Go.Proofs.Ythglmpkcfigelaa.VaL Go.Proofs.Ythglmpkcfigelaa.VaP Go.Proofs.Ythglmpkcfigelaa.VaQ Go.Proofs.Ythglmpkcfigelaa.VaS Go.Proofs.Ythglmpkcfigelaa.VaT Go.Proofs.Ythglmpkcfigelaa.VaU Go.Proofs.Ythglmpkcfigelaa.VaW Go.Proofs.Ythglmpkcfigelaa.VbA Go.Proofs.Ythglmpkcfigelaa.VbB Go.Proofs.Ythglmpkcfigelaa.VcV

set_option maxHeartbeats 4000000 in
theorem dec_0 (s : ByteArray) (w : World) (hs : s.size ≤ 100000000) (K : Nat) (hK : K ≠ 1 ∧ K ≠ 2 ∧ K ≠ 3 ∧ K ≠ 4 ∧ K ≠ 5) (hKb : K ≤ 255) (k0 k1 N : Nat) (b0 b1 : Bool) (h0 : rnum s 1 (0, false) = (K, (k0, b0))) (h1 : rnum s 4 (k0, b0) = (N, (k1, b1))) (hN : N ≤ 4294967295) :
    Calls Try.prog 15 #[.string s] w (DecPost s w (decD s)) := by
  have hk0 : k0 ≤ s.size := by have h := rnum_le s 1 (0, false) (Nat.zero_le _); rwa [h0] at h
  have hk1 : k1 ≤ s.size := by have h := rnum_le s 4 (k0, b0) hk0; rwa [h1] at h
  have HR := Lib.hid (And.intro h0 h1)
  have hn0 := fun w' (h : Rdr 64 w' (w.heap.size + 1) s 0 false) => num_p (w.heap.size + 1) s 0 1 false w' h (Nat.zero_le _) (by omega) (by decide) (by decide) h0
  have hn1 := fun w' (h : Rdr 64 w' (w.heap.size + 1) s k0 b0) => num_p (w.heap.size + 1) s k0 4 b0 w' h hk0 (by omega) (by decide) (by decide) h1
  clear h0 h1
  obtain ⟨W0, hW0⟩ : ∃ W0, (w.alloc (.cells #[.int .i64 0, .string ⟨#[]⟩, .slice none 0 0, .slice none 0 0, .slice none 0 0] 26)).alloc (.cells #[.string s, .int .i64 0, .bool false] 64) = W0 := ⟨_, rfl⟩
  have B0 : Below w.heap.size w W0 := by rw [← hW0]; exact ((Below.refl _ w).alloc (Nat.le_refl _) _).alloc (by simp) _
  have S0 : W0.heap.size = w.heap.size + 2 := by rw [← hW0]; simp
  have z0 : Bv W0 w.heap.size 0 ⟨#[]⟩ (.slice none 0 0) (.slice none 0 0) (.slice none 0 0) := by
    rw [← hW0]
    exact ((Only.refl (fun _ => False) (w.alloc _)).alloc _).heap (heap_alloc_new w _) id
  have r0 : Rdr 64 W0 (w.heap.size + 1) s 0 false := by
    rw [← hW0]
    have h := heap_alloc_new (w.alloc (.cells #[.int .i64 0, .string ⟨#[]⟩, .slice none 0 0, .slice none 0 0, .slice none 0 0] 26)) (.cells #[.string s, .int .i64 0, .bool false] 64)
    rw [World.size_alloc] at h
    exact h
  have H0 := Lib.hid hW0
  clear hW0
  have HS0 := Lib.hid S0
  clear S0
  obtain ⟨Ki, hKi⟩ : ∃ Ki : Int, (K : Int) = Ki := ⟨_, rfl⟩
  have e1 : (Ki == 1) = false := by simp; omega
  have e2 : (Ki == 2) = false := by simp; omega
  have e3 : (Ki == 3) = false := by simp; omega
  have e4 : (Ki == 4) = false := by simp; omega
  have e5 : (Ki == 5) = false := by simp; omega
  have hKw : IntKind.i64.wrap (K : Int) = Ki := by rw [Go.IntWalk.i64_in _ (by omega)]; exact hKi
  have hcK : ¬ chk (bare Ki ⟨#[]⟩ [] [] []) = 0 := by unfold chk isK bare; simp; omega
  have HCK := Lib.hid (show ¬ chk (bare (K : Int) ⟨#[]⟩ [] [] []) = 0 by rw [hKi]; exact hcK)
  have HKK := Lib.hid (And.intro hK hKb)
  have hK1 := hK.1
  clear hKi
  go_enter Try.func15, Try.ntmps15
  go_wp2_with fail
  rw [H0.out]
  refine (hn0 W0 r0).mono ?_
  rintro e w1 ⟨rfl, r1, o1⟩
  have z1 := o1.heap z0 (by omega)
  have B1 := o1.after B0 (Nat.le_refl _) (fun b h => by omega)
  have hs1 := o1.size
  have hS := HS0.out
  have dw : Dw 64 w w1.heap.size s k0 b0 Ki ⟨#[]⟩ (.slice none 0 0) (.slice none 0 0) (.slice none 0 0) (w1.alloc (.cells #[.int .i64 Ki, .string ⟨#[]⟩, .slice none 0 0, .slice none 0 0, .slice none 0 0] 26)) :=
    ⟨((Only.refl (fun _ => False) w1).alloc _).heap r1 id, hk0, ((Only.refl (fun _ => False) w1).alloc _).heap z1 id, heap_alloc_new w1 _, B1.alloc (by omega) _, by omega⟩
  clear r0 r1 z0 z1 o1 hn0 hS hs1 B0 B1
  go_wp2_with fail
  have hdw := dw
  obtain ⟨g, hg⟩ : ∃ g, w1.heap.size = g := ⟨_, rfl⟩
  rw [hg] at dw ⊢
  clear hdw
  generalize w1.alloc (.cells #[.int .i64 Ki, .string ⟨#[]⟩, .slice none 0 0, .slice none 0 0, .slice none 0 0] 26) = W1 at dw ⊢
  refine (hn1 W1 dw.rd).mono ?_
  rintro e w2 ⟨rfl, r2, o2⟩
  have d2 := dw.read r2 hk1 o2
  clear hn1 r2 o2 dw hg hk0
  have HD : Hid (decD s = ⟨K, ⟨#[]⟩, rdN s K N ⟨k1, b1, [], [], []⟩⟩) := Lib.hid (by unfold decD; rw [HR.out.1]; dsimp only; rw [if_neg hK1, HR.out.2])
  clear HR hK hKb hK1 hKw
  go_wp2_with fail
  go_loopw [7] (fun n wr => ∃ m st, n = .int .u64 (m : Nat) ∧ m ≤ 4294967295 ∧ rdN s K m st = rdN s K N ⟨k1, b1, [], [], []⟩ ∧ (st.l = [] ∧ st.f = [] ∧ st.r = []) ∧ Dw 64 w g s st.k st.bad Ki ⟨#[]⟩ (.slice none 0 0) (.slice none 0 0) (.slice none 0 0) wr) (fun n _ => (intOf n).toNat)
  case atStart => exact ⟨N, _, rfl, hN, rfl, ⟨rfl, rfl, rfl⟩, d2⟩
  case round =>
    obtain ⟨m, ⟨k, bad, l, f, r⟩, rfl, hm, hN', ⟨ho1, ho2, ho3⟩, D⟩ := hrel
    dsimp only at ho1 ho2 ho3 D
    subst ho1 ho2 ho3
    have HN := Lib.hid hN'
    clear hN' d2
    have c0 := D.rd.c0
    have c1 := D.rd.c1
    have c2 := D.rd.c2
    cases bad
    · rcases Nat.eq_zero_or_pos m with rfl | hpos
      · have HK : Hid (decD s = ⟨K, ⟨#[]⟩, ⟨k, false, [], [], []⟩⟩) := Lib.hid (by rw [HD.out, ← HN.out]; rfl)
        have RV : RdV wr ⟨Ki, ⟨#[]⟩, none, 0, 0, [], none, 0, 0, [], none, 0, 0, []⟩ := ⟨rd_nil0 _ _, rd_nil0 _ _, rd_nil0 _ _⟩
        have hck : Calls Try.prog 18 #[.agg #[.int .i64 Ki, .string ⟨#[]⟩, .slice none 0 0, .slice none 0 0, .slice none 0 0]] wr fun e w' => e = .returned (.int .i64 (chk ⟨Ki, ⟨#[]⟩, none, 0, 0, [], none, 0, 0, [], none, 0, 0, []⟩)) ∧ Below wr.heap.size wr w' := check_calls ⟨Ki, ⟨#[]⟩, none, 0, 0, [], none, 0, 0, [], none, 0, 0, []⟩ wr RV (Nat.zero_le _) (fun y h => by cases h)
        have HCE : Hid (chk ⟨Ki, ⟨#[]⟩, none, 0, 0, [], none, 0, 0, [], none, 0, 0, []⟩ = chk (bare Ki ⟨#[]⟩ [] [] [])) := Lib.hid (by rfl)
        rw [HCE.out] at hck
        obtain ⟨x0, x1, x2, x3, x4⟩ := D.x.cells
        have HOK : Hid ((decD s).ok = false) := Lib.hid (by rw [HK.out]; unfold Dc.ok Dc.v; simp; exact HCK.out)
        have hne : decide (chk (bare Ki ⟨#[]⟩ [] [] []) = 0) = false := by simpa using hcK
        go_wp2_with fail
        refine hck.mono ?_
        rintro e w4 ⟨rfl, b4⟩
        have D4 : Dw 64 w g s k false Ki ⟨#[]⟩ (.slice none 0 0) (.slice none 0 0) (.slice none 0 0) w4 := D.grow (Only.of_below b4) (fun b hb => by have := D.gz; omega)
        clear c0 c1 c2 x0 x1 x2 x3 x4 hck RV b4
        obtain ⟨z0, z1, z2, z3, z4⟩ := D4.z.cells
        have f0 := D4.z.free 0
        have f1 := D4.z.free 1
        have f2 := D4.z.free 2
        have f3 := D4.z.free 3
        have f4 := D4.z.free 4
        go_wp2_with fail
        have OF := onlyh (h := w.heap.size) (wr := w4) (.int .i64 0) (.string ⟨#[]⟩) (.slice none 0 0) (.slice none 0 0) (.slice none 0 0)
        have ZF := bv_set (k' := 0) (t' := ⟨#[]⟩) D4.z (.slice none 0 0) (.slice none 0 0) (.slice none 0 0)
        generalize ((((w4.setCell ⟨w.heap.size, 0, none⟩ (.int .i64 0)).setCell ⟨w.heap.size, 1, none⟩ (.string ⟨#[]⟩)).setCell ⟨w.heap.size, 2, none⟩ (.slice none 0 0)).setCell ⟨w.heap.size, 3, none⟩ (.slice none 0 0)).setCell ⟨w.heap.size, 4, none⟩ (.slice none 0 0) = wF at OF ZF ⊢
        obtain ⟨t0, t1, t2, t3, t4⟩ := ZF.cells
        exact bodyPost_ret (v := .tuple #[.agg #[.int .i64 0, .string ⟨#[]⟩, .slice none 0 0, .slice none 0 0, .slice none 0 0], .int .i64 0, .int .i64 132]) (by simp [results, Try.f15, go_sem, t0, t1, t2, t3, t4]) rfl (post_no HOK.out (OF.after D4.b (Nat.le_refl _) (fun b h => Nat.le_of_eq h.symm)))
      · obtain ⟨m', rfl⟩ : ∃ m', m = m' + 1 := ⟨m - 1, by omega⟩
        have hmi : (0 : Int) < ((m' + 1 : Nat) : Int) := by omega
        have hm2 : ((m' + 1 : Nat) : Int) ≤ 4294967295 := by omega
        have f2 := D.rd.f2
        have x0 := D.x.cells.1
        go_wp2_with fail
        exact ⟨⟨m', ⟨k, true, [], [], []⟩, rfl, by omega, rdN_step (by unfold rd1; rw [if_neg (fun h => h.elim HKK.out.1.2.1 HKK.out.1.2.2.2.1), if_neg HKK.out.1.2.2.1, if_neg HKK.out.1.2.2.2.2]) HN.out, ⟨rfl, rfl, rfl⟩, D.bads⟩, by simp [intOf]⟩
    · have HOK : Hid ((decD s).ok = false) := Lib.hid (by rw [HD.out, ← HN.out, rdN_bad rfl]; rfl)
      obtain ⟨z0, z1, z2, z3, z4⟩ := D.z.cells
      have f0 := D.z.free 0
      have f1 := D.z.free 1
      have f2 := D.z.free 2
      have f3 := D.z.free 3
      have f4 := D.z.free 4
      have OF := onlyh (h := w.heap.size) (wr := wr) (.int .i64 0) (.string ⟨#[]⟩) (.slice none 0 0) (.slice none 0 0) (.slice none 0 0)
      have ZF := bv_set (k' := 0) (t' := ⟨#[]⟩) D.z (.slice none 0 0) (.slice none 0 0) (.slice none 0 0)
      obtain ⟨t0, t1, t2, t3, t4⟩ := ZF.cells
      have HF := Lib.hid (And.intro OF (And.intro ZF (And.intro t0 (And.intro t1 (And.intro t2 (And.intro t3 t4))))))
      clear OF ZF t0 t1 t2 t3 t4
      have hm0 : (0 : Int) ≤ (m : Int) := by omega
      have hm2 : (m : Int) ≤ 4294967295 := by omega
      go_wp2_with fail
      all_goals (
        obtain ⟨OF, ZF, -⟩ := HF.out
        generalize ((((wr.setCell ⟨w.heap.size, 0, none⟩ (.int .i64 0)).setCell ⟨w.heap.size, 1, none⟩ (.string ⟨#[]⟩)).setCell ⟨w.heap.size, 2, none⟩ (.slice none 0 0)).setCell ⟨w.heap.size, 3, none⟩ (.slice none 0 0)).setCell ⟨w.heap.size, 4, none⟩ (.slice none 0 0) = wF at OF ZF ⊢
        obtain ⟨t0, t1, t2, t3, t4⟩ := ZF.cells
        exact bodyPost_ret (v := .tuple #[.agg #[.int .i64 0, .string ⟨#[]⟩, .slice none 0 0, .slice none 0 0, .slice none 0 0], .int .i64 0, .int .i64 132]) (by simp [results, Try.f15, go_sem, t0, t1, t2, t3, t4]) rfl (post_no HOK.out (OF.after D.b (Nat.le_refl _) (fun b h => Nat.le_of_eq h.symm))))
end Go.Proofs.Ythglmpkcfigelaa.VcE
