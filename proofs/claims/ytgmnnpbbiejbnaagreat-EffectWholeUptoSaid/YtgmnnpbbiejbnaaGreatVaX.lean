/-
  The document's test whether two values are the same. Conditions: as stated.
-/
import Derived.Test.YtgmnnpbbiejbnaaGreatVaN
import Derived.Test.YtgmnnpbbiejbnaaGreatVaU
import Derived.Laws.StructEq
set_option maxRecDepth 100000
set_option linter.unusedSimpArgs false
set_option linter.unusedVariables false
namespace Go.Proofs.YtgmnnpbbiejbnaaGreat.VaX
open Go.RowKit Go.Proofs.YtgmnnpbbiejbnaaGreat.Mem Go.Proofs.YtgmnnpbbiejbnaaGreat.VaA Go.Proofs.YtgmnnpbbiejbnaaGreat.VaB Go.Proofs.YtgmnnpbbiejbnaaGreat.VaC Go.Proofs.YtgmnnpbbiejbnaaGreat.VaE Go.Proofs.YtgmnnpbbiejbnaaGreat.VaH Go.Proofs.YtgmnnpbbiejbnaaGreat.VaI Go.Proofs.YtgmnnpbbiejbnaaGreat.VaK Go.Proofs.YtgmnnpbbiejbnaaGreat.VaN Go.Proofs.YtgmnnpbbiejbnaaGreat.VaU

theorem toL_eq {a b : ByteArray} : (a.toList == b.toList) = decide (a = b) := by
  by_cases h : a = b
  · subst h; simp
  · rw [decide_eq_false h, beq_eq_false_iff_ne]; exact fun e => h (toL_inj e)
theorem toL_iff {a b : ByteArray} : a.toList = b.toList ↔ a = b := ⟨toL_inj, fun h => by rw [h]⟩
theorem neq_F (a b : ByteArray × ByteArray) (w : World) : (binOp .neq 113 (.agg #[.string a.1, .string a.2]) (.agg #[.string b.1, .string b.2])).run Tryz.prog w = .ok (.bool (!decide (a = b))) w := by
  have u3 := Tryz.underlying9
  have a3 := Tryz.isAgg9
  have z3 := Tryz.sizeOf9
  have hS : Tryz.prog.underlying 113 = some (.struct (Tryz.prog.fieldsOf 113)) := by kernel_rfl
  have hp : Tryz.prog.stoodInHeld 113 = false := by kernel_rfl
  rw [run_neq_struct, show (10000 : Nat) = 9999 + 1 from rfl, run_equalIn_agg w 9999 113 _ _ hS hp]
  simp only [Program.fieldsOf, Tryz.underlying113]
  go_simp
  obtain ⟨a1, a2⟩ := a
  obtain ⟨b1, b2⟩ := b
  by_cases h1 : a1 = b1 <;> by_cases h2 : a2 = b2 <;> simp [toL_iff, h1, h2]
theorem neq_K (a b : ByteArray × Int) (w : World) : (binOp .neq 115 (.agg #[.string a.1, .int .i64 a.2]) (.agg #[.string b.1, .int .i64 b.2])).run Tryz.prog w = .ok (.bool (!decide (a = b))) w := by
  have u3 := Tryz.underlying9
  have a3 := Tryz.isAgg9
  have z3 := Tryz.sizeOf9
  have u4 := Tryz.underlying3
  have a4 := Tryz.isAgg3
  have z4 := Tryz.sizeOf3
  have hS : Tryz.prog.underlying 115 = some (.struct (Tryz.prog.fieldsOf 115)) := by kernel_rfl
  have hp : Tryz.prog.stoodInHeld 115 = false := by kernel_rfl
  rw [run_neq_struct, show (10000 : Nat) = 9999 + 1 from rfl, run_equalIn_agg w 9999 115 _ _ hS hp]
  simp only [Program.fieldsOf, Tryz.underlying115]
  go_simp
  obtain ⟨a1, a2⟩ := a
  obtain ⟨b1, b2⟩ := b
  by_cases h1 : a1 = b1 <;> by_cases h2 : a2 = b2 <;> simp [toL_iff, h1, h2]

/-- Are two values the same? -/
def sameV (x y : VV) : Bool := decide (x.kind = y.kind ∧ x.text = y.text ∧ x.list = y.list ∧ x.flds = y.flds ∧ x.rank = y.rank)
theorem same_no {x y : VV} (h : ¬ (x.kind = y.kind ∧ x.text = y.text ∧ x.list = y.list ∧ x.flds = y.flds ∧ x.rank = y.rank)) : sameV x y = false := decide_eq_false h

set_option maxHeartbeats 4000000 in
theorem sameR_calls (x y : VV) (w : World) (hx : RdV w x) (hy : RdV w y) :
    Calls Tryz.prog 35 #[x.val, y.val] w fun e w' => e = .returned (.bool (sameV x y)) ∧ Below w.heap.size w w' := by
  obtain ⟨k, t, LA, ln, lc, l, FA, fn, fc, f, KA, kn, kc, r⟩ := x
  obtain ⟨k', t', LA', ln', lc', l', FA', fn', fc', f', KA', kn', kc', r'⟩ := y
  show Calls _ _ #[.agg #[.int .i64 k, .string t, .slice LA ln lc, .slice FA fn fc, .slice KA kn kc], .agg #[.int .i64 k', .string t', .slice LA' ln' lc', .slice FA' fn' fc', .slice KA' kn' kc']] _ _
  obtain ⟨W0, hW0⟩ : ∃ W0, (w.alloc (.cells #[.int .i64 k, .string t, .slice LA ln lc, .slice FA fn fc, .slice KA kn kc] 42)).alloc (.cells #[.int .i64 k', .string t', .slice LA' ln' lc', .slice FA' fn' fc', .slice KA' kn' kc'] 42) = W0 := ⟨_, rfl⟩
  have B0 : Below w.heap.size w W0 := by rw [← hW0]; exact ((Below.refl _ w).alloc (Nat.le_refl _) _).alloc (by simp) _
  have p0 : W0.heap[w.heap.size]? = some (.cells #[.int .i64 k, .string t, .slice LA ln lc, .slice FA fn fc, .slice KA kn kc] 42 (0, 0)) := by
    rw [← hW0]
    exact ((Only.refl (fun _ => False) (w.alloc _)).alloc _).heap (heap_alloc_new w _) id
  have q0 : W0.heap[w.heap.size + 1]? = some (.cells #[.int .i64 k', .string t', .slice LA' ln' lc', .slice FA' fn' fc', .slice KA' kn' kc'] 42 (0, 0)) := by
    rw [← hW0]
    have h := heap_alloc_new (w.alloc (.cells #[.int .i64 k, .string t, .slice LA ln lc, .slice FA fn fc, .slice KA kn kc] 42)) (.cells #[.int .i64 k', .string t', .slice LA' ln' lc', .slice FA' fn' fc', .slice KA' kn' kc'] 42)
    rw [World.size_alloc] at h
    exact h
  have H0 := Lib.hid hW0
  clear hW0
  obtain ⟨x0, x1, x2, x3, x4⟩ := box5c p0
  obtain ⟨y0, y1, y2, y3, y4⟩ := box5c q0
  by_cases h1 : k = k'
  rotate_left
  · have HS := Lib.hid (same_no (x := ⟨k, t, LA, ln, lc, l, FA, fn, fc, f, KA, kn, kc, r⟩) (y := ⟨k', t', LA', ln', lc', l', FA', fn', fc', f', KA', kn', kc', r'⟩) (fun h => h1 h.1))
    have hd : (k == k') = false := by simp [h1]
    go_enter Tryz.func35, Tryz.ntmps35
    go_wp2_with fail
    go_ret
    exact ⟨by rw [HS.out]; rfl, by rw [H0.out]; exact B0⟩
  subst h1
  by_cases h2 : t = t'
  rotate_left
  · have HS := Lib.hid (same_no (x := ⟨k, t, LA, ln, lc, l, FA, fn, fc, f, KA, kn, kc, r⟩) (y := ⟨k, t', LA', ln', lc', l', FA', fn', fc', f', KA', kn', kc', r'⟩) (fun h => h2 h.2.1))
    have hd : ¬ t.toList = t'.toList := fun e => h2 (toL_inj e)
    go_enter Tryz.func35, Tryz.ntmps35
    go_wp2_with fail
    go_ret
    exact ⟨by rw [HS.out]; rfl, by rw [H0.out]; exact B0⟩
  subst h2
  by_cases h3 : l = l'
  rotate_left
  · have HS := Lib.hid (same_no (x := ⟨k, t, LA, ln, lc, l, FA, fn, fc, f, KA, kn, kc, r⟩) (y := ⟨k, t, LA', ln', lc', l', FA', fn', fc', f', KA', kn', kc', r'⟩) (fun h => h3 h.2.2.1))
    have hd : decide (l = l') = false := by simp [h3]
    have HD := Lib.hid hd
    clear hd h3
    go_enter Tryz.func35, Tryz.ntmps35
    go_wp2_with (rw [H0.out]; refine (sameS_calls LA ln lc l LA' ln' lc' l' W0 (hx.l.below B0) (hy.l.below B0)).mono ?_; rintro e w1 ⟨rfl, nd, rfl⟩; rw [HD.out])
    go_ret
    exact ⟨by rw [HS.out]; rfl, VaF.below_drawn_ B0 _⟩
  subst h3
  have hsl := fun w' (h : Below w.heap.size w w') => sameS_calls LA ln lc l LA' ln' lc' l w' (hx.l.below h) (hy.l.below h)
  rw [decide_eq_true (rfl : l = l)] at hsl
  have lf : f.length = fn := rdf_len hx.f
  have lf' : f'.length = fn' := rdf_len hy.f
  have lk : r.length = kn := rdk_len hx.k
  have lk' : r'.length = kn' := rdk_len hy.k
  by_cases h4 : fn = fn'
  rotate_left
  · have HS := Lib.hid (same_no (x := ⟨k, t, LA, ln, lc, l, FA, fn, fc, f, KA, kn, kc, r⟩) (y := ⟨k, t, LA', ln', lc', l, FA', fn', fc', f', KA', kn', kc', r'⟩) (fun h => h4 (by rw [← lf, ← lf', show f = f' from h.2.2.2.1])))
    have hd : ((fn : Int) == (fn' : Int)) = false := by simp; omega
    clear lf lf' lk lk'
    go_enter Tryz.func35, Tryz.ntmps35
    go_wp2_with (rw [H0.out]; refine (hsl W0 B0).mono ?_; rintro e w1 ⟨rfl, nd, rfl⟩)
    go_ret
    exact ⟨by rw [HS.out]; rfl, VaF.below_drawn_ B0 _⟩
  subst h4
  by_cases h5 : kn = kn'
  rotate_left
  · have HS := Lib.hid (same_no (x := ⟨k, t, LA, ln, lc, l, FA, fn, fc, f, KA, kn, kc, r⟩) (y := ⟨k, t, LA', ln', lc', l, FA', fn, fc', f', KA', kn', kc', r'⟩) (fun h => h5 (by rw [← lk, ← lk', show r = r' from h.2.2.2.2])))
    have hd : ((kn : Int) == (kn' : Int)) = false := by simp; omega
    clear lf lf' lk lk'
    go_enter Tryz.func35, Tryz.ntmps35
    go_wp2_with (rw [H0.out]; refine (hsl W0 B0).mono ?_; rintro e w1 ⟨rfl, nd, rfl⟩)
    go_ret
    exact ⟨by rw [HS.out]; rfl, VaF.below_drawn_ B0 _⟩
  subst h5
  have HF := Lib.hid (And.intro lf lf')
  have HK := Lib.hid (And.intro lk lk')
  clear lf lf' lk lk'
  go_enter Tryz.func35, Tryz.ntmps35
  clear x0 x1 x2 x3 x4 y0 y1 y2 y3 y4
  obtain ⟨x0, x1, x2, x3, x4⟩ := box5c p0
  obtain ⟨y0, y1, y2, y3, y4⟩ := box5c q0
  go_wp2_with (rw [H0.out]; refine (hsl W0 B0).mono ?_; rintro e w1 ⟨rfl, nd, hw1⟩; have b1 : Below W0.heap.size W0 w1 := (by rw [hw1]; exact VaF.below_drawn_ (Below.refl _ _) _); clear hw1 hsl x0 x1 x2 x3 x4 y0 y1 y2 y3 y4; have p1 := box5 p0 b1; have q1 := box5 q0 b1; have B1 := B0.trans (b1.mono B0.size); clear p0 q0 B0 b1; obtain ⟨x0, x1, x2, x3, x4⟩ := box5c p1; obtain ⟨y0, y1, y2, y3, y4⟩ := box5c q1; clear p1 q1)
  have RF := hx.f.below B1
  have RF' := hy.f.below B1
  have RK := hx.k.below B1
  have RK' := hy.k.below B1
  have hfc : fn ≤ fc := RF.cap
  have hfc' : fn ≤ fc' := RF'.cap
  have hfb : fc ≤ 9223372036854775807 := RF.big
  have hfb' : fc' ≤ 9223372036854775807 := RF'.big
  have hkc : kn ≤ kc := RK.cap
  have hkc' : kn ≤ kc' := RK'.cap
  have hkb : kc ≤ 9223372036854775807 := RK.big
  have hkb' : kc' ≤ 9223372036854775807 := RK'.big
  go_loopw [5] (fun i wr => ∃ j : Nat, j ≤ fn ∧ i = .int .i64 j ∧ (∀ i x y, i < j → f[i]? = some x → f'[i]? = some y → x = y) ∧ ∃ nd, wr = w1.drewN nd) (fun i _ => fn - (intOf i).toNat)
  case atStart => exact ⟨0, Nat.zero_le _, rfl, fun i x y h => by omega, 0, rfl⟩
  case round =>
    obtain ⟨j, hj, rfl, hin, nd, rfl⟩ := hrel
    have Hin := Lib.hid hin
    clear hin
    by_cases hlt : j < fn
    · obtain ⟨a, ha⟩ : ∃ a, f[j]? = some a := ⟨_, List.getElem?_eq_getElem (by have := HF.out.1; omega)⟩
      obtain ⟨b, hb⟩ : ∃ b, f'[j]? = some b := ⟨_, List.getElem?_eq_getElem (by have := HF.out.2; omega)⟩
      obtain ⟨p, rfl, cp0, cp1⟩ := rdf_get RF ha
      obtain ⟨q, rfl, cq0, cq1⟩ := rdf_get RF' hb
      have k0 : w1.cell? (p.add (j * 2)) = some (.string a.1) := cp0
      have k1 : w1.cell? ⟨(p.add (j * 2)).block, (p.add (j * 2)).off + 1, none⟩ = some (.string a.2) := cp1
      have m0 : w1.cell? (q.add (j * 2)) = some (.string b.1) := cq0
      have m1 : w1.cell? ⟨(q.add (j * 2)).block, (q.add (j * 2)).off + 1, none⟩ = some (.string b.2) := cq1
      have hne := neq_F a b
      have Hs := Lib.hid (And.intro ha hb)
      clear ha hb cp0 cp1 cq0 cq1
      by_cases he : a = b
      · rw [decide_eq_true he] at hne
        have HE := Lib.hid he
        clear he
        go_wp2_with fail
        go_quiet (fail)
        go_wp2_with fail
        refine ⟨⟨j + 1, by omega, by go_num, fun i x y hi hx hy => ?_, nd + nq, by first | rfl | exact drew2 _ _ _⟩, by simp [intOf]; omega⟩
        by_cases h : i < j
        · exact Hin.out i x y h hx hy
        · obtain rfl : i = j := by omega
          rw [Hs.out.1] at hx; injection hx with hx; subst hx
          rw [Hs.out.2] at hy; injection hy with hy; subst hy
          exact HE.out
      · rw [decide_eq_false he] at hne
        have HE := Lib.hid he
        clear he
        have HS := Lib.hid (same_no (x := ⟨k, t, LA, ln, lc, l, some p, fn, fc, f, KA, kn, kc, r⟩) (y := ⟨k, t, LA', ln', lc', l, some q, fn, fc', f', KA', kn, kc', r'⟩) (fun h => HE.out (by have h := h.2.2.2.1; have h1 := Hs.out.1; have h2 := Hs.out.2; dsimp only at h; subst h; rw [h1] at h2; injection h2)))
        go_wp2_with fail
        go_quiet (fail)
        go_wp2_with fail
        go_ret
        exact ⟨by rw [HS.out]; rfl, VaF.below_drawn_ (VaF.below_drawn_ B1 _) _⟩
    · obtain rfl : j = fn := by omega
      have HFE : Hid (f = f') := Lib.hid (list_eq_of (by rw [HF.out.1, HF.out.2]) (fun i x y hx hy => Hin.out i x y (by have := (List.getElem?_eq_some_iff.1 hx).1; have := HF.out.1; omega) hx hy))
      go_wp2_with fail
      go_loopw [6] (fun i wr => ∃ j : Nat, j ≤ kn ∧ i = .int .i64 j ∧ (∀ i x y, i < j → r[i]? = some x → r'[i]? = some y → x = y) ∧ ∃ nd, wr = w1.drewN nd) (fun i _ => kn - (intOf i).toNat)
      case atStart => exact ⟨0, Nat.zero_le _, rfl, fun i x y h => by omega, nd, rfl⟩
      case round =>
        obtain ⟨i, hi, rfl, hin2, nd2, rfl⟩ := hrel
        have Hin2 := Lib.hid hin2
        clear hin2
        by_cases hlt2 : i < kn
        · obtain ⟨a, ha⟩ : ∃ a, r[i]? = some a := ⟨_, List.getElem?_eq_getElem (by have := HK.out.1; omega)⟩
          obtain ⟨b, hb⟩ : ∃ b, r'[i]? = some b := ⟨_, List.getElem?_eq_getElem (by have := HK.out.2; omega)⟩
          obtain ⟨p, rfl, cp0, cp1⟩ := rdk_get RK ha
          obtain ⟨q, rfl, cq0, cq1⟩ := rdk_get RK' hb
          have k0 : w1.cell? (p.add (i * 2)) = some (.string a.1) := cp0
          have k1 : w1.cell? ⟨(p.add (i * 2)).block, (p.add (i * 2)).off + 1, none⟩ = some (.int .i64 a.2) := cp1
          have m0 : w1.cell? (q.add (i * 2)) = some (.string b.1) := cq0
          have m1 : w1.cell? ⟨(q.add (i * 2)).block, (q.add (i * 2)).off + 1, none⟩ = some (.int .i64 b.2) := cq1
          have hne := neq_K a b
          have Hs := Lib.hid (And.intro ha hb)
          clear ha hb cp0 cp1 cq0 cq1
          by_cases he : a = b
          · rw [decide_eq_true he] at hne
            have HE := Lib.hid he
            clear he
            go_wp2_with fail
            go_quiet (fail)
            go_wp2_with fail
            refine ⟨⟨i + 1, by omega, by go_num, fun i' x y hi' hx hy => ?_, nd2 + nq, by first | rfl | exact drew2 _ _ _⟩, by simp [intOf]; omega⟩
            by_cases h : i' < i
            · exact Hin2.out i' x y h hx hy
            · obtain rfl : i' = i := by omega
              rw [Hs.out.1] at hx; injection hx with hx; subst hx
              rw [Hs.out.2] at hy; injection hy with hy; subst hy
              exact HE.out
          · rw [decide_eq_false he] at hne
            have HE := Lib.hid he
            clear he
            have HS := Lib.hid (same_no (x := ⟨k, t, LA, ln, lc, l, FA, j, fc, f, some p, kn, kc, r⟩) (y := ⟨k, t, LA', ln', lc', l, FA', j, fc', f', some q, kn, kc', r'⟩) (fun h => HE.out (by have h := h.2.2.2.2; have h1 := Hs.out.1; have h2 := Hs.out.2; dsimp only at h; subst h; rw [h1] at h2; injection h2)))
            go_wp2_with fail
            go_quiet (fail)
            go_wp2_with fail
            go_ret
            exact ⟨by rw [HS.out]; rfl, VaF.below_drawn_ (VaF.below_drawn_ B1 _) _⟩
        · obtain rfl : i = kn := by omega
          have HKE : Hid (r = r') := Lib.hid (list_eq_of (by rw [HK.out.1, HK.out.2]) (fun i x y hx hy => Hin2.out i x y (by have := (List.getElem?_eq_some_iff.1 hx).1; have := HK.out.1; omega) hx hy))
          have HS : Hid (sameV ⟨k, t, LA, ln, lc, l, FA, j, fc, f, KA, i, kc, r⟩ ⟨k, t, LA', ln', lc', l, FA', j, fc', f', KA', i, kc', r'⟩ = true) := Lib.hid (decide_eq_true ⟨rfl, rfl, rfl, HFE.out, HKE.out⟩)
          go_wp2_with fail
          go_ret
          exact ⟨by rw [HS.out]; rfl, VaF.below_drawn_ B1 _⟩
end Go.Proofs.YtgmnnpbbiejbnaaGreat.VaX
