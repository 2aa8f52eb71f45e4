/-
  A value whose slices may be written; Copy tells that its answer is one. Conditions: as stated.
-/
import Derived.Test.YtgmnnpbbiejbnaaGreatMgF
set_option maxRecDepth 100000
set_option linter.unusedSimpArgs false
set_option linter.unusedVariables false
namespace Go.Proofs.YtgmnnpbbiejbnaaGreat.VdA
open Go Go.RowKit Go.Proofs.YtgmnnpbbiejbnaaGreat.Mem Go.Proofs.YtgmnnpbbiejbnaaGreat.VaA Go.Proofs.YtgmnnpbbiejbnaaGreat.VaC Go.Proofs.YtgmnnpbbiejbnaaGreat.VaH Go.Proofs.YtgmnnpbbiejbnaaGreat.VaI Go.Proofs.YtgmnnpbbiejbnaaGreat.VaL Go.Proofs.YtgmnnpbbiejbnaaGreat.VaS Go.Proofs.YtgmnnpbbiejbnaaGreat.VaT Go.Proofs.YtgmnnpbbiejbnaaGreat.VcV
structure WrV (w : World) (x : VV) : Prop where
  l : Wr w 9 1 x.ln x.lc x.LA
  f : Wr w 113 2 x.fn x.fc x.FA
  k : Wr w 115 2 x.kn x.kc x.KA
theorem WrV.below {w w' : World} {x : VV} (h : WrV w x) (hb : Below w.heap.size w w') : WrV w' x := ⟨h.l.below hb, h.f.below hb, h.k.below hb⟩
theorem WrV.put {w : World} {x : VV} (h : WrV w x) (b j : Nat) (u : Value) : WrV (w.setCell ⟨b, j, none⟩ u) x := ⟨h.l.put b j u, h.f.put b j u, h.k.put b j u⟩
/-- The blocks of its rows. -/
def Tch (x : VV) (k : Nat) : Prop := (∃ a, x.LA = some a ∧ a.block = k) ∨ (∃ a, x.FA = some a ∧ a.block = k) ∨ (∃ a, x.KA = some a ∧ a.block = k)
theorem tch_lt {w : World} {x : VV} (h : WrV w x) {k : Nat} (hk : Tch x k) : k < w.heap.size := by
  rcases hk with ⟨a, h1, rfl⟩ | ⟨a, h1, rfl⟩ | ⟨a, h1, rfl⟩
  · exact h.l.lt a h1
  · exact h.f.lt a h1
  · exact h.k.lt a h1
set_option maxHeartbeats 2000000 in
theorem copyW_calls (x : VV) (w : World) (hr : RdV w x) (hs : Sm x) :
    Calls Tryz.prog 46 #[x.val] w fun e w' => ∃ y : VV, e = .returned y.val ∧ y.kind = x.kind ∧ y.text = x.text ∧ y.list = x.list ∧ y.flds = x.flds ∧ y.rank = x.rank ∧ RdV w' y ∧ WrV w' y ∧ (Nw w.heap.size y.LA ∧ Nw w.heap.size y.FA ∧ Nw w.heap.size y.KA) ∧ Below w.heap.size w w' := by
  have hv : x.val = .agg #[.int .i64 x.kind, .string x.text, .slice x.LA x.ln x.lc, .slice x.FA x.fn x.fc, .slice x.KA x.kn x.kc] := rfl
  rw [hv]
  have b0 : Below w.heap.size w ((w.alloc (.cells #[.int .i64 x.kind, .string x.text, .slice x.LA x.ln x.lc, .slice x.FA x.fn x.fc, .slice x.KA x.kn x.kc] 42)).alloc (.cells #[.int .i64 0, .string ⟨#[]⟩, .slice none 0 0, .slice none 0 0, .slice none 0 0] 42)) := ((Below.refl _ w).alloc (Nat.le_refl _) _).alloc (by simp) _
  have p0 : Bv ((w.alloc (.cells #[.int .i64 x.kind, .string x.text, .slice x.LA x.ln x.lc, .slice x.FA x.fn x.fc, .slice x.KA x.kn x.kc] 42)).alloc (.cells #[.int .i64 0, .string ⟨#[]⟩, .slice none 0 0, .slice none 0 0, .slice none 0 0] 42)) w.heap.size x.kind x.text (.slice x.LA x.ln x.lc) (.slice x.FA x.fn x.fc) (.slice x.KA x.kn x.kc) :=
    ((Only.refl (fun _ => False) (w.alloc _)).alloc _).heap (heap_alloc_new w _) id
  have z0 : Bv ((w.alloc (.cells #[.int .i64 x.kind, .string x.text, .slice x.LA x.ln x.lc, .slice x.FA x.fn x.fc, .slice x.KA x.kn x.kc] 42)).alloc (.cells #[.int .i64 0, .string ⟨#[]⟩, .slice none 0 0, .slice none 0 0, .slice none 0 0] 42)) (w.heap.size + 1) 0 ⟨#[]⟩ (.slice none 0 0) (.slice none 0 0) (.slice none 0 0) := by
    have h := heap_alloc_new (w.alloc (.cells #[.int .i64 x.kind, .string x.text, .slice x.LA x.ln x.lc, .slice x.FA x.fn x.fc, .slice x.KA x.kn x.kc] 42)) (.cells #[.int .i64 0, .string ⟨#[]⟩, .slice none 0 0, .slice none 0 0, .slice none 0 0] 42)
    rw [World.size_alloc] at h
    exact h
  have sz0 : ((w.alloc (.cells #[.int .i64 x.kind, .string x.text, .slice x.LA x.ln x.lc, .slice x.FA x.fn x.fc, .slice x.KA x.kn x.kc] 42)).alloc (.cells #[.int .i64 0, .string ⟨#[]⟩, .slice none 0 0, .slice none 0 0, .slice none 0 0] 42)).heap.size = w.heap.size + 2 := by simp
  go_enter Tryz.func46, Tryz.ntmps46
  go_wp2_with fail
  refine (cloneS_calls x.LA x.ln x.lc x.list _ (hr.l.below b0) (by have := hs.ln; omega)).mono ?_
  rintro e w1 ⟨v1, rfl, o1, b1⟩
  obtain ⟨A1, c1, rfl⟩ := own_form o1
  have hl1 : x.list.length = x.ln := rds_len hr.l
  have R1 : RdS w1 A1 x.ln x.ln x.list := by have h := clip_rd (rds_own o1); rwa [hl1] at h
  have V1 : Wr w1 9 1 x.ln x.ln A1 := by have h := (wr_own o1).clip; rwa [hl1] at h
  have cap1 : x.ln ≤ c1 := by have h := (rds_own o1).cap; omega
  have N1 := nw_own o1
  rw [sz0] at N1
  have p1 := p0.below b1
  have z1 := z0.below b1
  have B1 := b0.trans (b1.mono b0.size)
  have sz1 := b1.size
  rw [sz0] at sz1
  clear p0 z0 b0 b1 o1 sz0
  have q23 := p1.cells.2.2.2.1
  have f2 := p1.free 2
  have q2 := p1.cells.2.2.1
  have hclip := clipS_calls A1 x.ln c1 w1 cap1
  rw [hl1]
  go_wp2_with fail
  refine hclip.mono ?_
  rintro e w1' ⟨rfl, rfl⟩
  go_wp2_with fail
  obtain ⟨w3, hw⟩ : ∃ w3, w1'.setCell ⟨w.heap.size, 2, none⟩ (.slice A1 x.ln x.ln) = w3 := ⟨_, rfl⟩
  have p3 := p1.putL (.slice A1 x.ln x.ln)
  have z3 := ((Only.refl (fun k => k = w.heap.size) w1').put (p := ⟨w.heap.size, 2, none⟩) (.inl rfl) (.slice A1 x.ln x.ln)).heap z1 (by omega)
  have B3 := B1.setCell (p := ⟨w.heap.size, 2, none⟩) (Nat.le_refl _) (.slice A1 x.ln x.ln)
  have hsz := ((Only.refl (fun k => k = w.heap.size) w1').put (p := ⟨w.heap.size, 2, none⟩) (.inl rfl) (.slice A1 x.ln x.ln)).size
  have R13 := rd_set (b := w.heap.size) (i := 2) R1 (fun ad e => by have := N1 ad e; omega) (.slice A1 x.ln x.ln)
  have V13 := V1.put w.heap.size 2 (.slice A1 x.ln x.ln)
  rw [hw] at p3 z3 B3 hsz R13 V13 ⊢
  clear hw
  have sz3 : w.heap.size + 2 ≤ w3.heap.size := by omega
  clear hsz f2 q2 q23 hclip p1 z1 B1 R1 sz1
  have q3 := p3.cells.2.2.2.1
  have f3 := p3.free 3
  refine (cloneF_calls x.FA x.fn x.fc x.flds _ (hr.f.below B3) (by have := hs.fn; omega)).mono ?_
  rintro e w4 ⟨v4, rfl, o4, b4⟩
  obtain ⟨A4, c4, rfl⟩ := own_form o4
  have hl4 : x.flds.length = x.fn := rdf_len hr.f
  have R4 : RdF w4 A4 x.fn x.fn x.flds := by have h := clip_rd (Rd.of_own (by unfold OwnF at o4; rw [own_n o4] at o4; exact o4)); rwa [hl4] at h
  have V4 : Wr w4 113 2 x.fn x.fn A4 := by have h := (wr_own o4).clip; rwa [hl4] at h
  have V14 := V13.below b4
  have cap4 : x.fn ≤ c4 := by have h := (Rd.of_own (by unfold OwnF at o4; rw [own_n o4] at o4; exact o4)).cap; omega
  have N4 := nw_own o4
  have p4 := p3.below b4
  have z4 : Bv w4 (w.heap.size + 1) 0 ⟨#[]⟩ (.slice none 0 0) (.slice none 0 0) (.slice none 0 0) := Bv.below z3 b4
  have R14 := R13.below b4
  have B4 := B3.trans (b4.mono B3.size)
  have sz4 := b4.size
  clear p3 z3 B3 R13 b4 o4 q3 f3
  have f4 := p4.free 3
  have q4 := p4.cells.2.2.2.1
  have q44 := p4.cells.2.2.2.2
  have hclip := clipF_calls A4 x.fn c4 w4 cap4
  rw [hl4]
  go_wp2_with fail
  refine hclip.mono ?_
  rintro e w4' ⟨rfl, rfl⟩
  go_wp2_with fail
  obtain ⟨w5, hw⟩ : ∃ w5, w4'.setCell ⟨w.heap.size, 3, none⟩ (.slice A4 x.fn x.fn) = w5 := ⟨_, rfl⟩
  have p5 := p4.putF (.slice A4 x.fn x.fn)
  have z5 := ((Only.refl (fun k => k = w.heap.size) w4').put (p := ⟨w.heap.size, 3, none⟩) (.inl rfl) (.slice A4 x.fn x.fn)).heap z4 (by omega)
  have B5 := B4.setCell (p := ⟨w.heap.size, 3, none⟩) (Nat.le_refl _) (.slice A4 x.fn x.fn)
  have hsz := ((Only.refl (fun k => k = w.heap.size) w4').put (p := ⟨w.heap.size, 3, none⟩) (.inl rfl) (.slice A4 x.fn x.fn)).size
  have R15 := rd_set (b := w.heap.size) (i := 3) R14 (fun ad e => by have := N1 ad e; omega) (.slice A4 x.fn x.fn)
  have R45 := rd_set (b := w.heap.size) (i := 3) R4 (fun ad e => by have := N4 ad e; omega) (.slice A4 x.fn x.fn)
  have V15 := V14.put w.heap.size 3 (.slice A4 x.fn x.fn)
  have V45 := V4.put w.heap.size 3 (.slice A4 x.fn x.fn)
  rw [hw] at p5 z5 B5 hsz R15 R45 V15 V45 ⊢
  clear hw
  have sz5 : w.heap.size + 2 ≤ w5.heap.size := by omega
  clear hsz f4 q4 q44 hclip p4 z4 B4 R14 R4 sz4
  have q5 := p5.cells.2.2.2.2
  have f5 := p5.free 4
  refine (cloneK_calls x.KA x.kn x.kc x.rank _ (hr.k.below B5) (by have := hs.kn; omega)).mono ?_
  rintro e w6 ⟨v6, rfl, o6, b6⟩
  obtain ⟨A6, c6, rfl⟩ := own_form o6
  have hl6 : x.rank.length = x.kn := rdk_len hr.k
  have R6 : RdK w6 A6 x.kn x.kn x.rank := by have h := clip_rd (Rd.of_own (by unfold OwnK at o6; rw [own_n o6] at o6; exact o6)); rwa [hl6] at h
  have V6 : Wr w6 115 2 x.kn x.kn A6 := by have h := (wr_own o6).clip; rwa [hl6] at h
  have V16 := V15.below b6
  have V46 := V45.below b6
  have cap6 : x.kn ≤ c6 := by have h := (Rd.of_own (by unfold OwnK at o6; rw [own_n o6] at o6; exact o6)).cap; omega
  have N6 := nw_own o6
  have p6 := p5.below b6
  have z6 : Bv w6 (w.heap.size + 1) 0 ⟨#[]⟩ (.slice none 0 0) (.slice none 0 0) (.slice none 0 0) := Bv.below z5 b6
  have R16 := R15.below b6
  have R46 := R45.below b6
  have B6 := B5.trans (b6.mono B5.size)
  have sz6 := b6.size
  clear p5 z5 B5 R15 R45 b6 o6 q5 f5
  have f6 := p6.free 4
  obtain ⟨r0, r1, r2, r3, q6⟩ := p6.cells
  have hclip := clipK_calls A6 x.kn c6 w6 cap6
  rw [hl6]
  go_wp2_with fail
  refine hclip.mono ?_
  rintro e w6' ⟨rfl, rfl⟩
  obtain ⟨s0, s1, s2, s3, s4⟩ := z6.cells
  have g0 := z6.free 0
  have g1 := z6.free 1
  have g2 := z6.free 2
  have g3 := z6.free 3
  have g4 := z6.free 4
  go_wp2_with fail
  have O : Only (fun b => b = w.heap.size ∨ b = w.heap.size + 1) w6' ((((((w6'.setCell ⟨w.heap.size, 4, none⟩ (.slice A6 x.kn x.kn)).setCell ⟨w.heap.size + 1, 0, none⟩ (.int .i64 x.kind)).setCell ⟨w.heap.size + 1, 1, none⟩ (.string x.text)).setCell ⟨w.heap.size + 1, 2, none⟩ (.slice A1 x.ln x.ln)).setCell ⟨w.heap.size + 1, 3, none⟩ (.slice A4 x.fn x.fn)).setCell ⟨w.heap.size + 1, 4, none⟩ (.slice A6 x.kn x.kn)) :=
    ((((((Only.refl _ w6').put (p := ⟨w.heap.size, 4, none⟩) (.inl (.inl rfl)) _).put (p := ⟨w.heap.size + 1, 0, none⟩) (.inl (.inr rfl)) _).put (p := ⟨w.heap.size + 1, 1, none⟩) (.inl (.inr rfl)) _).put (p := ⟨w.heap.size + 1, 2, none⟩) (.inl (.inr rfl)) _).put (p := ⟨w.heap.size + 1, 3, none⟩) (.inl (.inr rfl)) _).put (p := ⟨w.heap.size + 1, 4, none⟩) (.inl (.inr rfl)) _
  have zF : Bv ((((((w6'.setCell ⟨w.heap.size, 4, none⟩ (.slice A6 x.kn x.kn)).setCell ⟨w.heap.size + 1, 0, none⟩ (.int .i64 x.kind)).setCell ⟨w.heap.size + 1, 1, none⟩ (.string x.text)).setCell ⟨w.heap.size + 1, 2, none⟩ (.slice A1 x.ln x.ln)).setCell ⟨w.heap.size + 1, 3, none⟩ (.slice A4 x.fn x.fn)).setCell ⟨w.heap.size + 1, 4, none⟩ (.slice A6 x.kn x.kn)) (w.heap.size + 1) x.kind x.text (.slice A1 x.ln x.ln) (.slice A4 x.fn x.fn) (.slice A6 x.kn x.kn) := by
    unfold Bv at z6 ⊢
    simp [World.setCell, Array.getElem?_modify, z6]
  obtain ⟨wF, hwF⟩ : ∃ wF, ((((((w6'.setCell ⟨w.heap.size, 4, none⟩ (.slice A6 x.kn x.kn)).setCell ⟨w.heap.size + 1, 0, none⟩ (.int .i64 x.kind)).setCell ⟨w.heap.size + 1, 1, none⟩ (.string x.text)).setCell ⟨w.heap.size + 1, 2, none⟩ (.slice A1 x.ln x.ln)).setCell ⟨w.heap.size + 1, 3, none⟩ (.slice A4 x.fn x.fn)).setCell ⟨w.heap.size + 1, 4, none⟩ (.slice A6 x.kn x.kn)) = wF := ⟨_, rfl⟩
  rw [hwF] at O zF ⊢
  obtain ⟨t0, t1, t2, t3, t4⟩ := zF.cells
  refine bodyPost_ret (v := .agg #[.int .i64 x.kind, .string x.text, .slice A1 x.ln x.ln, .slice A4 x.fn x.fn, .slice A6 x.kn x.kn]) (by simp [results, Tryz.f46, go_sem, t0, t1, t2, t3, t4]) rfl ?_
  have hN1 : ∀ ad, A1 = some ad → ¬ (ad.block = w.heap.size ∨ ad.block = w.heap.size + 1) := fun ad e h => by have := N1 ad e; omega
  have hN4 : ∀ ad, A4 = some ad → ¬ (ad.block = w.heap.size ∨ ad.block = w.heap.size + 1) := fun ad e h => by have := N4 ad e; omega
  have hN6 : ∀ ad, A6 = some ad → ¬ (ad.block = w.heap.size ∨ ad.block = w.heap.size + 1) := fun ad e h => by have := N6 ad e; omega
  exact ⟨{ x with LA := A1, lc := x.ln, FA := A4, fc := x.fn, KA := A6, kc := x.kn }, rfl, rfl, rfl, rfl, rfl, rfl, ⟨R16.only O hN1, R46.only O hN4, R6.only O hN6⟩, ⟨V16.only O hN1, V46.only O hN4, V6.only O hN6⟩, ⟨fun ad e => by have := N1 ad e; omega, fun ad e => by have := N4 ad e; omega, fun ad e => by have := N6 ad e; omega⟩, O.after B6 (Nat.le_refl _) (fun b h => by omega)⟩
end Go.Proofs.YtgmnnpbbiejbnaaGreat.VdA
