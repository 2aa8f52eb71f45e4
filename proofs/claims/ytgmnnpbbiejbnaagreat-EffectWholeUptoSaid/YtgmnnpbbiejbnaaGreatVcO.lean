/-
  slices.Equal at three types; value.Same. Conditions: as stated.
-/
import Derived.Test.YtgmnnpbbiejbnaaGreatVaX
set_option maxRecDepth 100000
set_option linter.unusedSimpArgs false
set_option linter.unusedVariables false
namespace Go.Proofs.YtgmnnpbbiejbnaaGreat.VcO
open Go.RowKit Go.Proofs.YtgmnnpbbiejbnaaGreat.Mem Go.Proofs.YtgmnnpbbiejbnaaGreat.VaA Go.Proofs.YtgmnnpbbiejbnaaGreat.VaB Go.Proofs.YtgmnnpbbiejbnaaGreat.VaC Go.Proofs.YtgmnnpbbiejbnaaGreat.VaE Go.Proofs.YtgmnnpbbiejbnaaGreat.VaH Go.Proofs.YtgmnnpbbiejbnaaGreat.VaI Go.Proofs.YtgmnnpbbiejbnaaGreat.VaN Go.Proofs.YtgmnnpbbiejbnaaGreat.VaU Go.Proofs.YtgmnnpbbiejbnaaGreat.VaX

set_option maxHeartbeats 1000000 in
theorem eqS_calls (A : Option Addr) (n c : Nat) (l : List ByteArray) (B : Option Addr) (m d : Nat) (k : List ByteArray) (w : World) (ha : RdS w A n c l) (hb : RdS w B m d k) :
    Calls Tryz.prog 79 #[.slice A n c, .slice B m d] w fun e w' => e = .returned (.bool (decide (l = k))) ∧ ∃ nd, w' = w.drewN nd := by
  obtain rfl := rds_len ha
  obtain rfl := rds_len hb
  have h1 := ha.cap
  have h2 : c ≤ 9223372036854775807 := ha.big
  have h3 := hb.cap
  have h4 : d ≤ 9223372036854775807 := hb.big
  go_enter Tryz.func79, Tryz.ntmps79
  by_cases hl : l.length = k.length
  · have HL := Lib.hid hl
    have hbq : ((l.length : Int) == (k.length : Int)) = true := by simp [hl]
    clear hl
    go_wp2_with fail
    go_loopw [13] (fun i wr => ∃ j : Nat, j ≤ l.length ∧ i = .int .i64 j ∧ (∀ i x y, i < j → l[i]? = some x → k[i]? = some y → x = y) ∧ ∃ nd, wr = w.drewN nd) (fun i _ => l.length - (intOf i).toNat)
    case atStart => exact ⟨0, Nat.zero_le _, rfl, fun i x y h => by omega, 0, rfl⟩
    case round =>
      obtain ⟨j, hj, rfl, hin, nd, rfl⟩ := hrel
      have Hin := Lib.hid hin
      clear hin
      by_cases hlt : j < l.length
      · obtain ⟨s, hs⟩ : ∃ s, l[j]? = some s := ⟨_, List.getElem?_eq_getElem hlt⟩
        have hlt2 : j < k.length := by have := HL.out; omega
        obtain ⟨t, ht⟩ : ∃ t, k[j]? = some t := ⟨_, List.getElem?_eq_getElem hlt2⟩
        obtain ⟨p, rfl, cp⟩ := rds_get ha hs
        obtain ⟨q, rfl, cq⟩ := rds_get hb ht
        have Hs := Lib.hid (And.intro hs ht)
        clear hs ht
        by_cases he : s = t
        · have hne : (s.toList == t.toList) = true := by simp [he]
          have HE := Lib.hid he
          clear he
          go_wp2_with fail
          go_quiet (fail)
          go_wp2_with fail
          refine ⟨⟨j + 1, by omega, by go_num, fun i x y hi hx hy => ?_, nd + nq, by first | rfl | exact drew2 _ _ _⟩, by simp [intOf]; omega⟩
          by_cases h : i < j
          · exact Hin.out i x y h hx hy
          · obtain rfl : i = j := by omega
            rw [Hs.out.1] at hx; injection hx with hx; subst hx
            rw [Hs.out.2] at hy; injection hy with hy; subst hy
            exact HE.out
        · have hne : (s.toList == t.toList) = false := by rw [toL_eq]; simp [he]
          have HE := Lib.hid he
          clear he
          go_wp2_with fail
          go_quiet (fail)
          go_wp2_with fail
          go_ret
          exact ⟨by rw [decide_eq_false (fun e => HE.out (by have h1 := Hs.out.1; rw [e, Hs.out.2] at h1; injection h1 with h1; exact h1.symm))]; rfl, nd + nq, by first | rfl | exact drew2 _ _ _⟩
      · obtain rfl : j = l.length := by omega
        go_wp2_with fail
        go_ret
        exact ⟨by rw [decide_eq_true (list_eq_of HL.out (fun i x y hx hy => Hin.out i x y (List.getElem?_eq_some_iff.1 hx).1 hx hy))]; rfl, nd, rfl⟩
  · have HL := Lib.hid hl
    have hbq : ((l.length : Int) == (k.length : Int)) = false := by simp; omega
    go_wp2_with fail
    go_ret
    exact ⟨by rw [decide_eq_false (fun e => HL.out (by rw [e]))]; rfl, 0, rfl⟩

set_option maxHeartbeats 1000000 in
theorem eqF_calls (A : Option Addr) (n c : Nat) (l : List (ByteArray × ByteArray)) (B : Option Addr) (m d : Nat) (k : List (ByteArray × ByteArray)) (w : World) (ha : RdF w A n c l) (hb : RdF w B m d k) :
    Calls Tryz.prog 80 #[.slice A n c, .slice B m d] w fun e w' => e = .returned (.bool (decide (l = k))) ∧ ∃ nd, w' = w.drewN nd := by
  obtain rfl := rdf_len ha
  obtain rfl := rdf_len hb
  have h1 := ha.cap
  have h2 : c ≤ 9223372036854775807 := ha.big
  have h3 := hb.cap
  have h4 : d ≤ 9223372036854775807 := hb.big
  go_enter Tryz.func80, Tryz.ntmps80
  by_cases hl : l.length = k.length
  · have HL := Lib.hid hl
    have hbq : ((l.length : Int) == (k.length : Int)) = true := by simp [hl]
    clear hl
    go_wp2_with fail
    go_loopw [13] (fun i wr => ∃ j : Nat, j ≤ l.length ∧ i = .int .i64 j ∧ (∀ i x y, i < j → l[i]? = some x → k[i]? = some y → x = y) ∧ ∃ nd, wr = w.drewN nd) (fun i _ => l.length - (intOf i).toNat)
    case atStart => exact ⟨0, Nat.zero_le _, rfl, fun i x y h => by omega, 0, rfl⟩
    case round =>
      obtain ⟨j, hj, rfl, hin, nd, rfl⟩ := hrel
      have Hin := Lib.hid hin
      clear hin
      by_cases hlt : j < l.length
      · obtain ⟨s, hs⟩ : ∃ s, l[j]? = some s := ⟨_, List.getElem?_eq_getElem hlt⟩
        have hlt2 : j < k.length := by have := HL.out; omega
        obtain ⟨t, ht⟩ : ∃ t, k[j]? = some t := ⟨_, List.getElem?_eq_getElem hlt2⟩
        obtain ⟨p, rfl, cp0, cp1⟩ := rdf_get ha hs
        obtain ⟨q, rfl, cq0, cq1⟩ := rdf_get hb ht
        have k0 : w.cell? (p.add (j * 2)) = some (.string s.1) := cp0
        have k1 : w.cell? ⟨(p.add (j * 2)).block, (p.add (j * 2)).off + 1, none⟩ = some (.string s.2) := cp1
        have m0 : w.cell? (q.add (j * 2)) = some (.string t.1) := cq0
        have m1 : w.cell? ⟨(q.add (j * 2)).block, (q.add (j * 2)).off + 1, none⟩ = some (.string t.2) := cq1
        have hne := neq_F s t
        clear cp0 cp1 cq0 cq1
        have Hs := Lib.hid (And.intro hs ht)
        clear hs ht
        by_cases he : s = t
        · rw [decide_eq_true he] at hne
          have HE := Lib.hid he
          clear he
          go_wp2_with fail
          go_quiet (fail)
          go_wp2_with fail
          refine ⟨⟨j + 1, by omega, by go_num, fun i x y hi hx hy => ?_, nd + nq, by first | rfl | exact drew2 _ _ _⟩, by simp [intOf]; omega⟩
          by_cases h : i < j
          · exact Hin.out i x y h hx hy
          · obtain rfl : i = j := by omega
            rw [Hs.out.1] at hx; injection hx with hx; subst hx
            rw [Hs.out.2] at hy; injection hy with hy; subst hy
            exact HE.out
        · rw [decide_eq_false he] at hne
          have HE := Lib.hid he
          clear he
          go_wp2_with fail
          go_quiet (fail)
          go_wp2_with fail
          go_ret
          exact ⟨by rw [decide_eq_false (fun e => HE.out (by have h1 := Hs.out.1; rw [e, Hs.out.2] at h1; injection h1 with h1; exact h1.symm))]; rfl, nd + nq, by first | rfl | exact drew2 _ _ _⟩
      · obtain rfl : j = l.length := by omega
        go_wp2_with fail
        go_ret
        exact ⟨by rw [decide_eq_true (list_eq_of HL.out (fun i x y hx hy => Hin.out i x y (List.getElem?_eq_some_iff.1 hx).1 hx hy))]; rfl, nd, rfl⟩
  · have HL := Lib.hid hl
    have hbq : ((l.length : Int) == (k.length : Int)) = false := by simp; omega
    go_wp2_with fail
    go_ret
    exact ⟨by rw [decide_eq_false (fun e => HL.out (by rw [e]))]; rfl, 0, rfl⟩

set_option maxHeartbeats 1000000 in
theorem eqK_calls (A : Option Addr) (n c : Nat) (l : List (ByteArray × Int)) (B : Option Addr) (m d : Nat) (k : List (ByteArray × Int)) (w : World) (ha : RdK w A n c l) (hb : RdK w B m d k) :
    Calls Tryz.prog 81 #[.slice A n c, .slice B m d] w fun e w' => e = .returned (.bool (decide (l = k))) ∧ ∃ nd, w' = w.drewN nd := by
  obtain rfl := rdk_len ha
  obtain rfl := rdk_len hb
  have h1 := ha.cap
  have h2 : c ≤ 9223372036854775807 := ha.big
  have h3 := hb.cap
  have h4 : d ≤ 9223372036854775807 := hb.big
  go_enter Tryz.func81, Tryz.ntmps81
  by_cases hl : l.length = k.length
  · have HL := Lib.hid hl
    have hbq : ((l.length : Int) == (k.length : Int)) = true := by simp [hl]
    clear hl
    go_wp2_with fail
    go_loopw [13] (fun i wr => ∃ j : Nat, j ≤ l.length ∧ i = .int .i64 j ∧ (∀ i x y, i < j → l[i]? = some x → k[i]? = some y → x = y) ∧ ∃ nd, wr = w.drewN nd) (fun i _ => l.length - (intOf i).toNat)
    case atStart => exact ⟨0, Nat.zero_le _, rfl, fun i x y h => by omega, 0, rfl⟩
    case round =>
      obtain ⟨j, hj, rfl, hin, nd, rfl⟩ := hrel
      have Hin := Lib.hid hin
      clear hin
      by_cases hlt : j < l.length
      · obtain ⟨s, hs⟩ : ∃ s, l[j]? = some s := ⟨_, List.getElem?_eq_getElem hlt⟩
        have hlt2 : j < k.length := by have := HL.out; omega
        obtain ⟨t, ht⟩ : ∃ t, k[j]? = some t := ⟨_, List.getElem?_eq_getElem hlt2⟩
        obtain ⟨p, rfl, cp0, cp1⟩ := rdk_get ha hs
        obtain ⟨q, rfl, cq0, cq1⟩ := rdk_get hb ht
        have k0 : w.cell? (p.add (j * 2)) = some (.string s.1) := cp0
        have k1 : w.cell? ⟨(p.add (j * 2)).block, (p.add (j * 2)).off + 1, none⟩ = some (.int .i64 s.2) := cp1
        have m0 : w.cell? (q.add (j * 2)) = some (.string t.1) := cq0
        have m1 : w.cell? ⟨(q.add (j * 2)).block, (q.add (j * 2)).off + 1, none⟩ = some (.int .i64 t.2) := cq1
        have hne := neq_K s t
        clear cp0 cp1 cq0 cq1
        have Hs := Lib.hid (And.intro hs ht)
        clear hs ht
        by_cases he : s = t
        · rw [decide_eq_true he] at hne
          have HE := Lib.hid he
          clear he
          go_wp2_with fail
          go_quiet (fail)
          go_wp2_with fail
          refine ⟨⟨j + 1, by omega, by go_num, fun i x y hi hx hy => ?_, nd + nq, by first | rfl | exact drew2 _ _ _⟩, by simp [intOf]; omega⟩
          by_cases h : i < j
          · exact Hin.out i x y h hx hy
          · obtain rfl : i = j := by omega
            rw [Hs.out.1] at hx; injection hx with hx; subst hx
            rw [Hs.out.2] at hy; injection hy with hy; subst hy
            exact HE.out
        · rw [decide_eq_false he] at hne
          have HE := Lib.hid he
          clear he
          go_wp2_with fail
          go_quiet (fail)
          go_wp2_with fail
          go_ret
          exact ⟨by rw [decide_eq_false (fun e => HE.out (by have h1 := Hs.out.1; rw [e, Hs.out.2] at h1; injection h1 with h1; exact h1.symm))]; rfl, nd + nq, by first | rfl | exact drew2 _ _ _⟩
      · obtain rfl : j = l.length := by omega
        go_wp2_with fail
        go_ret
        exact ⟨by rw [decide_eq_true (list_eq_of HL.out (fun i x y hx hy => Hin.out i x y (List.getElem?_eq_some_iff.1 hx).1 hx hy))]; rfl, nd, rfl⟩
  · have HL := Lib.hid hl
    have hbq : ((l.length : Int) == (k.length : Int)) = false := by simp; omega
    go_wp2_with fail
    go_ret
    exact ⟨by rw [decide_eq_false (fun e => HL.out (by rw [e]))]; rfl, 0, rfl⟩


set_option maxHeartbeats 4000000 in
theorem sameP_calls (x y : VV) (w : World) (hx : RdV w x) (hy : RdV w y) :
    Calls Tryz.prog 54 #[x.val, y.val] w fun e w' => e = .returned (.bool (sameV x y)) ∧ Below w.heap.size w w' := by
  obtain ⟨k, t, LA, ln, lc, l, FA, fn, fc, f, KA, kn, kc, r⟩ := x
  obtain ⟨k', t', LA', ln', lc', l', FA', fn', fc', f', KA', kn', kc', r'⟩ := y
  show Calls _ _ #[.agg #[.int .i64 k, .string t, .slice LA ln lc, .slice FA fn fc, .slice KA kn kc], .agg #[.int .i64 k', .string t', .slice LA' ln' lc', .slice FA' fn' fc', .slice KA' kn' kc']] _ _
  obtain ⟨W0, hW0⟩ : ∃ W0, (w.alloc (.cells #[.int .i64 k, .string t, .slice LA ln lc, .slice FA fn fc, .slice KA kn kc] 42)).alloc (.cells #[.int .i64 k', .string t', .slice LA' ln' lc', .slice FA' fn' fc', .slice KA' kn' kc'] 42) = W0 := ⟨_, rfl⟩
  have B0 : Below w.heap.size w W0 := by rw [← hW0]; exact ((Below.refl _ w).alloc (Nat.le_refl _) _).alloc (by simp) _
  have p0 : W0.heap[w.heap.size]? = some (.cells #[.int .i64 k, .string t, .slice LA ln lc, .slice FA fn fc, .slice KA kn kc] 42 (0, 0)) := by
    rw [← hW0]
    exact ((Only.refl (fun _ => False) (w.alloc _)).alloc _).heap (heap_alloc_new w _) id
  have q0 : W0.heap[w.heap.size + 1]? = some (.cells #[.int .i64 k', .string t', .slice LA' ln' lc', .slice FA' fn' fc', .slice KA' kn' kc'] 42 (0, 0)) := by
    rw [← hW0]
    have h := heap_alloc_new (w.alloc (.cells #[.int .i64 k, .string t, .slice LA ln lc, .slice FA fn fc, .slice KA kn kc] 42)) (.cells #[.int .i64 k', .string t', .slice LA' ln' lc', .slice FA' fn' fc', .slice KA' kn' kc'] 42)
    rw [World.size_alloc] at h
    exact h
  have H0 := Lib.hid hW0
  have hcS := fun w' (h : Below W0.heap.size W0 w') => eqS_calls LA ln lc l LA' ln' lc' l' w' ((hx.l.below B0).below h) ((hy.l.below B0).below h)
  have hcF := fun w' (h : Below W0.heap.size W0 w') => eqF_calls FA fn fc f FA' fn' fc' f' w' ((hx.f.below B0).below h) ((hy.f.below B0).below h)
  have hcK := fun w' (h : Below W0.heap.size W0 w') => eqK_calls KA kn kc r KA' kn' kc' r' w' ((hx.k.below B0).below h) ((hy.k.below B0).below h)
  subst hW0
  have BR := fun nd => VaF.below_drawn_ (Below.refl ((w.alloc (.cells #[.int .i64 k, .string t, .slice LA ln lc, .slice FA fn fc, .slice KA kn kc] 42)).alloc (.cells #[.int .i64 k', .string t', .slice LA' ln' lc', .slice FA' fn' fc', .slice KA' kn' kc'] 42)).heap.size ((w.alloc (.cells #[.int .i64 k, .string t, .slice LA ln lc, .slice FA fn fc, .slice KA kn kc] 42)).alloc (.cells #[.int .i64 k', .string t', .slice LA' ln' lc', .slice FA' fn' fc', .slice KA' kn' kc'] 42))) nd
  obtain ⟨x0, x1, x2, x3, x4⟩ := box5c p0
  obtain ⟨y0, y1, y2, y3, y4⟩ := box5c q0
  clear hx hy p0 q0
  by_cases h1 : k = k'
  rotate_left
  · have HS := Lib.hid (same_no (x := ⟨k, t, LA, ln, lc, l, FA, fn, fc, f, KA, kn, kc, r⟩) (y := ⟨k', t', LA', ln', lc', l', FA', fn', fc', f', KA', kn', kc', r'⟩) (fun h => h1 h.1))
    have hd : (k == k') = false := by simp [h1]
    go_enter Tryz.func54, Tryz.ntmps54
    go_wp2_with fail
    go_ret
    exact ⟨by rw [HS.out]; rfl, B0⟩
  subst h1
  by_cases h2 : t = t'
  rotate_left
  · have HS := Lib.hid (same_no (x := ⟨k, t, LA, ln, lc, l, FA, fn, fc, f, KA, kn, kc, r⟩) (y := ⟨k, t', LA', ln', lc', l', FA', fn', fc', f', KA', kn', kc', r'⟩) (fun h => h2 h.2.1))
    have hd : (t.toList == t'.toList) = false := by rw [toL_eq]; simp [h2]
    clear h2
    go_enter Tryz.func54, Tryz.ntmps54
    go_wp2_with fail
    go_ret
    exact ⟨by rw [HS.out]; rfl, B0⟩
  subst h2
  go_enter Tryz.func54, Tryz.ntmps54
  go_wp2_with fail
  refine (hcS _ (Below.refl _ _)).mono ?_
  rintro e w1 ⟨rfl, n1, rfl⟩
  by_cases h3 : l = l'
  rotate_left
  · have HS := Lib.hid (same_no (x := ⟨k, t, LA, ln, lc, l, FA, fn, fc, f, KA, kn, kc, r⟩) (y := ⟨k, t, LA', ln', lc', l', FA', fn', fc', f', KA', kn', kc', r'⟩) (fun h => h3 h.2.2.1))
    rw [decide_eq_false h3]
    clear h3
    go_wp2_with fail
    go_ret
    exact ⟨by rw [HS.out]; rfl, VaF.below_drawn_ B0 _⟩
  rw [decide_eq_true h3]
  have HL := Lib.hid h3
  clear h3
  go_wp2_with fail
  refine (hcF _ (BR n1)).mono ?_
  rintro e w1 ⟨rfl, n2, rfl⟩
  by_cases h4 : f = f'
  rotate_left
  · have HS := Lib.hid (same_no (x := ⟨k, t, LA, ln, lc, l, FA, fn, fc, f, KA, kn, kc, r⟩) (y := ⟨k, t, LA', ln', lc', l', FA', fn', fc', f', KA', kn', kc', r'⟩) (fun h => h4 h.2.2.2.1))
    rw [decide_eq_false h4]
    clear h4
    go_wp2_with fail
    go_ret
    exact ⟨by rw [HS.out]; rfl, by first | exact VaF.below_drawn_ B0 _ | exact VaF.below_drawn_ (VaF.below_drawn_ B0 _) _ | exact VaF.below_drawn_ (VaF.below_drawn_ (VaF.below_drawn_ B0 _) _) _⟩
  rw [decide_eq_true h4]
  have HF := Lib.hid h4
  clear h4
  go_wp2_with fail
  refine (hcK _ (by first | exact BR _ | (rw [drew2]; exact BR _))).mono ?_
  rintro e w1 ⟨rfl, n3, rfl⟩
  by_cases h5 : r = r'
  rotate_left
  · have HS := Lib.hid (same_no (x := ⟨k, t, LA, ln, lc, l, FA, fn, fc, f, KA, kn, kc, r⟩) (y := ⟨k, t, LA', ln', lc', l', FA', fn', fc', f', KA', kn', kc', r'⟩) (fun h => h5 h.2.2.2.2))
    rw [decide_eq_false h5]
    clear h5
    go_wp2_with fail
    go_ret
    exact ⟨by rw [HS.out]; rfl, by first | exact VaF.below_drawn_ B0 _ | exact VaF.below_drawn_ (VaF.below_drawn_ B0 _) _ | exact VaF.below_drawn_ (VaF.below_drawn_ (VaF.below_drawn_ B0 _) _) _⟩
  rw [decide_eq_true h5]
  have HS : Hid (sameV ⟨k, t, LA, ln, lc, l, FA, fn, fc, f, KA, kn, kc, r⟩ ⟨k, t, LA', ln', lc', l', FA', fn', fc', f', KA', kn', kc', r'⟩ = true) := Lib.hid (decide_eq_true ⟨rfl, rfl, HL.out, HF.out, h5⟩)
  clear h5
  go_wp2_with fail
  go_ret
  exact ⟨by rw [HS.out]; rfl, by first | exact VaF.below_drawn_ B0 _ | exact VaF.below_drawn_ (VaF.below_drawn_ B0 _) _ | exact VaF.below_drawn_ (VaF.below_drawn_ (VaF.below_drawn_ B0 _) _) _⟩
end Go.Proofs.YtgmnnpbbiejbnaaGreat.VcO
