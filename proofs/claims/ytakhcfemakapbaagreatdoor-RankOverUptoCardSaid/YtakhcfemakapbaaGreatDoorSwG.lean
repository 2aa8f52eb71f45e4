/-
  sort.partialInsertionSort_func where 'less' may lay blocks. Conditions: as stated.
-/
import Derived.Test.YtakhcfemakapbaaGreatDoorSwA
import Derived.Deep.CutRange
import Derived.Deep.LoopGhost
import Derived.Sort.AtCall
import Derived.Deep.CutBlock
import Derived.Deep.DeepCutAuto
set_option maxRecDepth 100000
set_option linter.unusedSimpArgs false
set_option linter.unusedVariables false
namespace Go.Proofs.YtakhcfemakapbaaGreatDoor.SwG
open Go Go.Shelf Go.RowKit Go.Sort Go.Proofs.YtakhcfemakapbaaGreatDoor.Mem Go.Proofs.YtakhcfemakapbaaGreatDoor.DuM Go.Proofs.YtakhcfemakapbaaGreatDoor.SwA
variable {α : Type} [Inhabited α]
theorem scan_in (lt : α → α → Bool) (d : Array α) (b : Nat) : ∀ (n i : Nat), b - i ≤ n → i ≤ b → i ≤ scanSorted lt d b i ∧ scanSorted lt d b i ≤ b
  | 0, i, h, hi => by
    rw [scanSorted.eq_def, if_neg (by simp; intro h; omega)]
    exact ⟨Nat.le_refl _, hi⟩
  | n + 1, i, h, hi => by
    rw [scanSorted.eq_def]
    split
    · rename_i h1
      simp at h1
      obtain ⟨h2, h3⟩ := scan_in lt d b n (i + 1) (by omega) (by omega)
      exact ⟨by omega, h3⟩
    · exact ⟨Nat.le_refl _, hi⟩
theorem down_size (lt : α → α → Bool) : ∀ (j : Nat) (d : Array α), (shiftDown lt j d).size = d.size
  | 0, d => rfl
  | j + 1, d => by
    rw [shiftDown]
    split
    · rfl
    · rw [down_size, swp_size]
theorem up_size (lt : α → α → Bool) (b : Nat) : ∀ (n j : Nat) (d : Array α), b - j ≤ n → (shiftUp lt b j d).size = d.size
  | 0, j, d, h => by rw [shiftUp.eq_def, if_neg (by omega)]
  | n + 1, j, d, h => by
    rw [shiftUp.eq_def]
    split
    · split
      · rfl
      · rw [up_size lt b n (j + 1) _ (by omega), swp_size]
    · rfl
section
variable {enc : α → List Value} {k : Nat} {lt : α → α → Bool} {g : Nat} {lb : Array Value} {sf : Nat} {sb : Array Value} {blk off size : Nat} {w0 : World}
set_option maxHeartbeats 16000000 in
theorem partial_calls (E : Env enc k lt g lb sf sb blk off size w0) (a b : Nat) (d : Array α) (W : World) (h : SWK enc k w0 blk off d W) (hs : d.size = size) (hab : a < b) (hb : b ≤ size) :
    Calls Tryz.prog 94 #[dV g lb sf sb, .int .i64 a, .int .i64 b] W fun e w' => e = .returned (.bool (partialInsertionSort lt d a b).2) ∧ St enc k blk off w0 W (partialInsertionSort lt d a b).1 w' := by
  have hsz := E.hsz
  have hbl : blk < W.heap.size := h.lt E.hblk
  have eg := E.eg
  have s0 : St enc k blk off w0 W d (W.alloc (.cells #[.func (.func g) #[] lb, .func (.func sf) #[] sb] 105)) := (St.start h).alloc _
  have x0 := Bx.new W (.func (.func g) #[] lb) (.func (.func sf) #[] sb) 105 hbl
  have H0 := Lib.hid (And.intro s0 x0)
  clear s0 x0 h
  go_enter Tryz.func94, Tryz.ntmps94
  go_wp2_with fail
  go_loopg [7, 8] 5 (fun st iv jv wr => ∃ (i : Nat) (dk : Array α), iv = .int .i64 i ∧ jv = .int .i64 (5 - (st : Int)) ∧ st ≤ 5 ∧ a < i ∧ i ≤ b ∧ dk.size = size ∧ Hid (St enc k blk off w0 W dk wr ∧ Bx W.heap.size (.func (.func g) #[] lb) (.func (.func sf) #[] sb) blk wr ∧ partialIns lt a b st i dk = partialInsertionSort lt d a b))
  case atStart => exact ⟨a + 1, d, by simp, rfl, Nat.le_refl _, by omega, by omega, hs, Lib.hid ⟨H0.out.1, H0.out.2, rfl⟩⟩
  case round =>
    obtain ⟨i, dk, rfl, rfl, hst, hai, hib, hds, hR⟩ := hrel
    rcases Nat.eq_zero_or_pos gk with h0 | h0
    · subst h0
      rw [show (5 : Int) - ((0 : Nat) : Int) = 5 by rfl]
      go_wp2_with fail
      go_ret
      exact ⟨by rw [← hR.out.2.2]; rfl, by rw [← hR.out.2.2]; exact hR.out.1⟩
    · obtain ⟨s, rfl⟩ : ∃ s, gk = s + 1 := ⟨gk - 1, by omega⟩
      obtain ⟨J, hJ⟩ : ∃ J, J = (5 : Int) - ((s + 1 : Nat) : Int) := ⟨_, rfl⟩
      have hJ5 : J < 5 := by omega
      have hJ0 : 0 ≤ J := by omega
      rw [← hJ]
      have HJ := Lib.hid hJ
      clear hJ
      obtain ⟨c0, c1, -, -⟩ := hR.out.2.1
      go_upto_block 2 with fail
      go_cut [7] (fun s7 wc => s7 = .int .i64 ((scanSorted lt dk b i : Nat) : Int) ∧ Hid (St enc k blk off w0 W dk wc ∧ Bx W.heap.size (.func (.func g) #[] lb) (.func (.func sf) #[] sb) blk wc))
      case first =>
        go_wp2_with fail
        go_loopg [7] (b - i) (fun k7 s7 wx => ∃ x : Nat, s7 = .int .i64 x ∧ k7 = b - x ∧ i ≤ x ∧ x ≤ b ∧ Hid (St enc k blk off w0 W dk wx ∧ Bx W.heap.size (.func (.func g) #[] lb) (.func (.func sf) #[] sb) blk wx ∧ scanSorted lt dk b x = scanSorted lt dk b i))
        case atStart => exact ⟨i, rfl, rfl, Nat.le_refl _, hib, Lib.hid ⟨hR.out.1, hR.out.2.1, rfl⟩⟩
        case round =>
          obtain ⟨x, rfl, hk7, hix, hxb, hX⟩ := hrel
          have HST := Lib.hid hX.out.1
          have HXB := Lib.hid hX.out.2.1
          have HE := Lib.hid hX.out.2.2
          have HK := Lib.hid hk7
          clear hk7 hX c0 c1
          obtain ⟨c0, c1, -, -⟩ := HXB.out
          by_cases hxl : x < b
          · obtain ⟨m, hm⟩ : ∃ m, x = m + 1 := ⟨x - 1, by omega⟩
            have hjm : (x : Int) - 1 = (m : Int) := by omega
            have hl := E.less wr dk HST.out.sw hds x m (by omega) (by omega)
            have hm' : x - 1 = m := by omega
            have HM := Lib.hid hm'
            clear hm hm'
            cases hv : lt dk[x]! dk[m]!
            · rw [hv] at hl
              have HV := Lib.hid hv
              clear hv
              go_wp2_with (go_at_fn g; refine hl.mono ?_; rintro e w1 ⟨rfl, q, os, hw1⟩; have st1 := Lib.hid (show St enc k blk off w0 W dk w1 by rw [hw1]; exact HST.out.grow q os); have x1 := Lib.hid (HXB.out.only (show Only (fun b => b = blk) wr w1 by rw [hw1]; exact only_grow _ q os)); clear hw1)
              go_roundg (b - (x + 1))
              case measure => have := HK.out; omega
              case rel => exact ⟨x + 1, by simp, rfl, by omega, by omega, Lib.hid ⟨st1.out, x1.out, by rw [← HE.out, scanSorted.eq_def lt dk b x, HM.out, HV.out, if_pos (by simpa using hxl)]⟩⟩
            · rw [hv] at hl
              have HV := Lib.hid hv
              clear hv
              go_wp2_with (go_at_fn g; refine hl.mono ?_; rintro e w1 ⟨rfl, q, os, hw1⟩; have st1 := Lib.hid (show St enc k blk off w0 W dk w1 by rw [hw1]; exact HST.out.grow q os); have x1 := Lib.hid (HXB.out.only (show Only (fun b => b = blk) wr w1 by rw [hw1]; exact only_grow _ q os)); clear hw1)
              go_meet
              case rel => exact ⟨by rw [← HE.out, scanSorted.eq_def lt dk b x, HM.out, HV.out, if_neg (by simp)], Lib.hid ⟨st1.out, x1.out⟩⟩
          · go_wp2_with fail
            go_meet
            case rel => exact ⟨by rw [← HE.out, scanSorted.eq_def lt dk b x, if_neg (by simp; intro h; omega)], Lib.hid ⟨HST.out, HXB.out⟩⟩
      case rest =>
        obtain ⟨h7, hC⟩ := hcut
        obtain ⟨x, hx⟩ : ∃ x, x = scanSorted lt dk b i := ⟨_, rfl⟩
        rw [← hx] at h7
        obtain ⟨hx1, hx2⟩ := scan_in lt dk b _ i (Nat.le_refl _) hib
        rw [← hx] at hx1 hx2
        subst h7
        have hE := hR.out.2.2
        rw [partialIns] at hE
        simp only [← hx] at hE
        clear hR c0 c1 hx
        obtain ⟨c0, c1, -, -⟩ := hC.out.2
        by_cases hxb : x = b
        · rw [if_pos hxb] at hE
          have HE := Lib.hid hE
          clear hE
          have ht : ((x : Int) == (b : Int)) = true := by rw [hxb]; simp
          have HX := Lib.hid hxb
          clear hxb
          go_wp2_with fail
          go_ret
          exact ⟨by rw [← HE.out]; rfl, by rw [← HE.out]; exact hC.out.1⟩
        · rw [if_neg hxb] at hE
          have ht : ((x : Int) == (b : Int)) = false := by simp; omega
          by_cases h50 : b - a < 50
          · rw [if_pos h50] at hE
            have HE := Lib.hid hE
            clear hE
            have h50' : (b : Int) - (a : Int) < 50 := by omega
            go_wp2_with fail
            go_ret
            exact ⟨by rw [← HE.out]; rfl, by rw [← HE.out]; exact hC.out.1⟩
          · rw [if_neg h50] at hE
            have h50' : ¬ (b : Int) - (a : Int) < 50 := by omega
            obtain ⟨m, hm⟩ : ∃ m, x = m + 1 := ⟨x - 1, by omega⟩
            have hxm : (x : Int) - 1 = (m : Int) := by omega
            have hm1 : x - 1 = m := by omega
            rw [hm1] at hE
            have HM := Lib.hid hm
            clear hm hm1
            have hmb : m < size := by have := HM.out; omega
            obtain ⟨d1, hd1⟩ : ∃ d1, d1 = Sort.swp dk x m := ⟨_, rfl⟩
            obtain ⟨W2, hsw, st2, on2⟩ := E.swp hC.out.1 hds (i := x) (j := m) (by omega) hmb
            rw [← hd1] at hE st2
            have hds1 : d1.size = size := by rw [hd1, swp_size]; exact hds
            clear hd1
            have x2 := Lib.hid (hC.out.2.only on2)
            have ST2 := Lib.hid st2
            clear st2 on2
            obtain ⟨d2, hd2⟩ : ∃ d2, d2 = (if x - a ≥ 2 then shiftDown lt m d1 else d1) := ⟨_, rfl⟩
            have hds2 : d2.size = size := by rw [hd2]; split <;> simp [down_size, hds1]
            obtain ⟨d3, hd3⟩ : ∃ d3, d3 = (if b - x ≥ 2 then shiftUp lt b (x + 1) d2 else d2) := ⟨_, rfl⟩
            have hds3 : d3.size = size := by rw [hd3]; split <;> simp [up_size lt b _ _ _ (Nat.le_refl _), hds2]
            rw [← hd2, ← hd3] at hE
            have HE := Lib.hid hE
            clear hE
            have HD2 := Lib.hid hd2
            have HD3 := Lib.hid hd3
            clear hd2 hd3
            go_upto_if 47 with fail
            obtain ⟨e0, e1, -, -⟩ := x2.out
            go_cut [] (fun wc => Hid (St enc k blk off w0 W d2 wc ∧ Bx W.heap.size (.func (.func g) #[] lb) (.func (.func sf) #[] sb) blk wc))
            case first =>
              by_cases h2 : x - a ≥ 2
              · have h2z : (2 : Int) ≤ (x : Int) - (a : Int) := by omega
                have hD := HD2.out
                rw [if_pos h2] at hD
                have HD := Lib.hid hD
                clear hD
                go_wp2_with fail
                go_loopg [9] m (fun k9 s9 wx => ∃ (j : Nat) (dj : Array α), s9 = .int .i64 j ∧ k9 = j ∧ j ≤ m ∧ dj.size = size ∧ Hid (St enc k blk off w0 W dj wx ∧ Bx W.heap.size (.func (.func g) #[] lb) (.func (.func sf) #[] sb) blk wx ∧ shiftDown lt j dj = shiftDown lt m d1))
                case atStart => exact ⟨m, d1, rfl, rfl, Nat.le_refl _, hds1, Lib.hid ⟨ST2.out, x2.out, rfl⟩⟩
                case round =>
                  obtain ⟨j, dj, rfl, hk9, hjm, hdj, hX⟩ := hrel
                  have HST := Lib.hid hX.out.1
                  have HXB := Lib.hid hX.out.2.1
                  have HE2 := Lib.hid hX.out.2.2
                  have HK := Lib.hid hk9
                  clear hk9 hX e0 e1 c0 c1
                  obtain ⟨c0, c1, -, -⟩ := HXB.out
                  rcases Nat.eq_zero_or_pos j with hj0 | hj0
                  · have HJ0 := Lib.hid hj0
                    have hj1 : ¬ (1 : Int) ≤ (j : Int) := by omega
                    clear hj0
                    go_wp2_with fail
                    go_meet
                    case rel => exact Lib.hid ⟨by rw [HD.out, ← HE2.out, HJ0.out]; exact HST.out, HXB.out⟩
                  · obtain ⟨n, hn⟩ : ∃ n, j = n + 1 := ⟨j - 1, by omega⟩
                    have hjn : (j : Int) - 1 = (n : Int) := by omega
                    have hj1 : (1 : Int) ≤ (j : Int) := by omega
                    have hnb : n < size := by omega
                    have hl := E.less wr dj HST.out.sw hdj j n (by omega) hnb
                    have HN := Lib.hid hn
                    clear hn
                    cases hv : lt dj[j]! dj[n]!
                    · rw [hv] at hl
                      have HV := Lib.hid hv
                      clear hv
                      go_wp2_with (go_at_fn g; refine hl.mono ?_; rintro e w1 ⟨rfl, q, os, hw1⟩; have st1 := Lib.hid (show St enc k blk off w0 W dj w1 by rw [hw1]; exact HST.out.grow q os); have x1 := Lib.hid (HXB.out.only (show Only (fun b => b = blk) wr w1 by rw [hw1]; exact only_grow _ q os)); clear hw1)
                      go_meet
                      case rel =>
                        have e1 : shiftDown lt j dj = dj := by
                          have h1 := HV.out
                          rw [HN.out] at h1 ⊢
                          rw [shiftDown, h1, if_pos (by simp)]
                        exact Lib.hid ⟨by rw [HD.out, ← HE2.out, e1]; exact st1.out, x1.out⟩
                    · rw [hv] at hl
                      have HV := Lib.hid hv
                      clear hv
                      go_wp2_with (go_at_fn g; refine hl.mono ?_; rintro e w1 ⟨rfl, q, os, hw1⟩; have st1 := Lib.hid (show St enc k blk off w0 W dj w1 by rw [hw1]; exact HST.out.grow q os); have x1 := Lib.hid (HXB.out.only (show Only (fun b => b = blk) wr w1 by rw [hw1]; exact only_grow _ q os)); clear hw1; obtain ⟨W2, hsw, st2, on2⟩ := E.swp st1.out hdj (i := j) (j := n) (by omega) (by omega); have ST2 := Lib.hid (And.intro st2 (x1.out.only on2)); clear st2 on2; obtain ⟨d0, d1, -, -⟩ := x1.out)
                      go_roundg n
                      case measure => have := HK.out; have := HN.out; omega
                      case rel =>
                        have e1 : shiftDown lt j dj = shiftDown lt n (Sort.swp dj j n) := by
                          have h1 := HV.out
                          rw [HN.out] at h1 ⊢
                          rw [shiftDown, h1, if_neg (by simp)]
                        exact ⟨n, Sort.swp dj j n, by first | rfl | rw [hjn], rfl, by have := HN.out; omega, by rw [swp_size]; exact hdj, Lib.hid ⟨ST2.out.1, ST2.out.2, by rw [← e1]; exact HE2.out⟩⟩
              · have h2z : ¬ (2 : Int) ≤ (x : Int) - (a : Int) := by omega
                have hD := HD2.out
                rw [if_neg h2] at hD
                have HD := Lib.hid hD
                clear hD
                go_wp2_with fail
                go_meet
                case rel => exact Lib.hid ⟨by rw [HD.out]; exact ST2.out, x2.out⟩
            case rest =>
              have HC := hcut
              clear hcut c0 c1 e0 e1 hsw
              obtain ⟨c0, c1, -, -⟩ := HC.out.2
              by_cases h2 : b - x ≥ 2
              · have h2z : (2 : Int) ≤ (b : Int) - (x : Int) := by omega
                have hD := HD3.out
                rw [if_pos h2] at hD
                have HD := Lib.hid hD
                clear hD
                go_wp2_with fail
                go_loopg [10] (b - (x + 1)) (fun k9 s9 wx => ∃ (j : Nat) (dj : Array α), s9 = .int .i64 j ∧ k9 = b - j ∧ x < j ∧ j ≤ b ∧ dj.size = size ∧ Hid (St enc k blk off w0 W dj wx ∧ Bx W.heap.size (.func (.func g) #[] lb) (.func (.func sf) #[] sb) blk wx ∧ shiftUp lt b j dj = shiftUp lt b (x + 1) d2))
                case atStart => exact ⟨x + 1, d2, by simp, rfl, by omega, by omega, hds2, Lib.hid ⟨HC.out.1, HC.out.2, rfl⟩⟩
                case round =>
                  obtain ⟨j, dj, rfl, hk9, hxj, hjb, hdj, hX⟩ := hrel
                  have HST := Lib.hid hX.out.1
                  have HXB := Lib.hid hX.out.2.1
                  have HE2 := Lib.hid hX.out.2.2
                  have HK := Lib.hid hk9
                  clear hk9 hX c0 c1
                  obtain ⟨c0, c1, -, -⟩ := HXB.out
                  by_cases hjl : j < b
                  · obtain ⟨n, hn⟩ : ∃ n, j = n + 1 := ⟨j - 1, by omega⟩
                    have hjn : (j : Int) - 1 = (n : Int) := by omega
                    have hj1 : j - 1 = n := by omega
                    have hnb : n < size := by omega
                    have hl := E.less wr dj HST.out.sw hdj j n (by omega) hnb
                    have HN := Lib.hid hj1
                    clear hn hj1
                    cases hv : lt dj[j]! dj[n]!
                    · rw [hv] at hl
                      have HV := Lib.hid hv
                      clear hv
                      go_wp2_with (go_at_fn g; refine hl.mono ?_; rintro e w1 ⟨rfl, q, os, hw1⟩; have st1 := Lib.hid (show St enc k blk off w0 W dj w1 by rw [hw1]; exact HST.out.grow q os); have x1 := Lib.hid (HXB.out.only (show Only (fun b => b = blk) wr w1 by rw [hw1]; exact only_grow _ q os)); clear hw1)
                      go_roundg s
                      case measure => omega
                      case rel =>
                        have e1 : shiftUp lt b j dj = dj := by rw [shiftUp.eq_def, if_pos hjl, HN.out, HV.out, if_pos (by simp)]
                        exact ⟨x, d3, rfl, by have := HJ.out; congr 1; omega, by omega, by omega, by omega, hds3, Lib.hid ⟨by rw [HD.out, ← HE2.out, e1]; exact st1.out, x1.out, HE.out⟩⟩
                    · rw [hv] at hl
                      have HV := Lib.hid hv
                      clear hv
                      go_wp2_with (go_at_fn g; refine hl.mono ?_; rintro e w1 ⟨rfl, q, os, hw1⟩; have st1 := Lib.hid (show St enc k blk off w0 W dj w1 by rw [hw1]; exact HST.out.grow q os); have x1 := Lib.hid (HXB.out.only (show Only (fun b => b = blk) wr w1 by rw [hw1]; exact only_grow _ q os)); clear hw1; obtain ⟨W2, hsw, st2, on2⟩ := E.swp st1.out hdj (i := j) (j := n) (by omega) (by omega); have ST2 := Lib.hid (And.intro st2 (x1.out.only on2)); clear st2 on2; obtain ⟨d0, d1, -, -⟩ := x1.out)
                      go_roundg (b - (j + 1))
                      case measure => have := HK.out; omega
                      case rel =>
                        have e1 : shiftUp lt b j dj = shiftUp lt b (j + 1) (Sort.swp dj j n) := by rw [shiftUp.eq_def, if_pos hjl, HN.out, HV.out, if_neg (by simp)]
                        exact ⟨j + 1, Sort.swp dj j n, by simp, rfl, by omega, by omega, by rw [swp_size]; exact hdj, Lib.hid ⟨ST2.out.1, ST2.out.2, by rw [← e1]; exact HE2.out⟩⟩
                  · go_wp2_with fail
                    go_roundg s
                    case measure => omega
                    case rel =>
                      have e1 : shiftUp lt b j dj = dj := by rw [shiftUp.eq_def, if_neg hjl]
                      exact ⟨x, d3, rfl, by have := HJ.out; congr 1; omega, by omega, by omega, by omega, hds3, Lib.hid ⟨by rw [HD.out, ← HE2.out, e1]; exact HST.out, HXB.out, HE.out⟩⟩
              · have h2z : ¬ (2 : Int) ≤ (b : Int) - (x : Int) := by omega
                have hD := HD3.out
                rw [if_neg h2] at hD
                have HD := Lib.hid hD
                clear hD
                go_wp2_with fail
                go_roundg s
                case measure => omega
                case rel => exact ⟨x, d3, rfl, by have := HJ.out; congr 1; omega, by omega, by omega, by omega, hds3, Lib.hid ⟨by rw [HD.out]; exact HC.out.1, HC.out.2, HE.out⟩⟩
end
end Go.Proofs.YtakhcfemakapbaaGreatDoor.SwG
