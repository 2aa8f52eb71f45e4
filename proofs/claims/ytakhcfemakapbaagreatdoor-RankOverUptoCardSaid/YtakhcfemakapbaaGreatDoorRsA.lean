/-
  sort.insertionSort_func where 'less' may lay blocks. Conditions: as stated.
  sort.siftDown_func where 'less' may lay blocks. Conditions: as stated.
  sort.heapSort_func where 'less' may lay blocks. Conditions: as stated.
-/
import Derived.Test.YtakhcfemakapbaaGreatDoorSwA
import Derived.Sort.LotB
set_option maxRecDepth 100000
set_option linter.unusedSimpArgs false
set_option linter.unusedVariables false
namespace Go.Proofs.YtakhcfemakapbaaGreatDoor.SwB
open Go Go.Shelf Go.RowKit Go.Sort Go.Proofs.YtakhcfemakapbaaGreatDoor.Mem Go.Proofs.YtakhcfemakapbaaGreatDoor.DuM Go.Proofs.YtakhcfemakapbaaGreatDoor.SwA
variable {α : Type} [Inhabited α]
set_option maxHeartbeats 4000000 in
theorem ins_calls {enc : α → List Value} {k : Nat} {lt : α → α → Bool} {g : Nat} {lb : Array Value} {sf : Nat} {sb : Array Value} {blk off size : Nat} {w0 : World} (E : Env enc k lt g lb sf sb blk off size w0)
    (a b : Nat) (d : Array α) (W : World) (h : SWK enc k w0 blk off d W) (hs : d.size = size) (hab : a ≤ b) (hb : b ≤ size) :
    Calls Tryz.prog 89 #[dV g lb sf sb, .int .i64 a, .int .i64 b] W fun e w' => e = .returned (.tuple #[]) ∧ St enc k blk off w0 W (insertionSort lt d a b) w' := by
  have hsz := E.hsz
  have hbl : blk < W.heap.size := h.lt E.hblk
  have eg := E.eg
  have s0 : St enc k blk off w0 W d (W.alloc (.cells #[.func (.func g) #[] lb, .func (.func sf) #[] sb] 105)) := (St.start h).alloc _
  have x0 := Bx.new W (.func (.func g) #[] lb) (.func (.func sf) #[] sb) 105 hbl
  have H0 := Lib.hid (And.intro s0 x0)
  clear s0 x0 h
  go_enter Tryz.func89, Tryz.ntmps89
  go_wp2_with fail
  go_loopw [6] (fun iv wr => ∃ (i : Nat) (dk : Array α), iv = .int .i64 i ∧ (i ≤ b ∨ i = a + 1) ∧ a < i ∧ dk.size = size ∧ Hid (St enc k blk off w0 W dk wr ∧ Bx W.heap.size (.func (.func g) #[] lb) (.func (.func sf) #[] sb) blk wr ∧ insOuter lt a b i dk = insertionSort lt d a b)) (fun iv _ => b - (Go.RowKit.intOf iv).toNat)
  case atStart => exact ⟨a + 1, d, by simp, .inr rfl, by omega, hs, Lib.hid ⟨H0.out.1, H0.out.2, rfl⟩⟩
  case round =>
    obtain ⟨i, dk, rfl, hi, hai, hds, hR⟩ := hrel
    by_cases hlt : i < b
    · go_wp2_with fail
      go_loopw [7] (fun jv wr => ∃ (j : Nat) (dj : Array α), jv = .int .i64 j ∧ a ≤ j ∧ j ≤ i ∧ dj.size = size ∧ Hid (St enc k blk off w0 W dj wr ∧ Bx W.heap.size (.func (.func g) #[] lb) (.func (.func sf) #[] sb) blk wr ∧ insInner lt a j dj = insInner lt a i dk)) (fun jv _ => (Go.RowKit.intOf jv).toNat)
      case atStart => exact ⟨i, dk, rfl, by omega, Nat.le_refl _, hds, Lib.hid ⟨hR.out.1, hR.out.2.1, rfl⟩⟩
      case round =>
        obtain ⟨j, dj, rfl, haj, hji, hdj, hRj⟩ := hrel
        have hst := hRj.out.1
        obtain ⟨c0, c1, -, -⟩ := hRj.out.2.1
        have HST := Lib.hid hst
        clear hst
        by_cases hja : a < j
        · obtain ⟨m, hm⟩ : ∃ m, j = m + 1 := ⟨j - 1, by omega⟩
          have hjm : (j : Int) - 1 = (m : Int) := by omega
          have hl := E.less wr dj HST.out.sw hdj j m (by omega) (by omega)
          have HM := Lib.hid hm
          clear hm
          cases hv : lt dj[j]! dj[m]!
          · rw [hv] at hl
            have HV := Lib.hid hv
            clear hv
            go_wp2_with (go_at_fn g; refine hl.mono ?_; rintro e w1 ⟨rfl, q, os, hw1⟩; have st1 := Lib.hid (show St enc k blk off w0 W dj w1 by rw [hw1]; exact HST.out.grow q os); have x1 := Lib.hid (hRj.out.2.1.only (show Only (fun b => b = blk) wr w1 by rw [hw1]; exact only_grow _ q os)); clear hw1)
            have e1 : insInner lt a j dj = dj := by
              have := HM.out; subst this
              rw [insInner, if_neg (by rw [HV.out]; simp)]
            exact ⟨⟨i + 1, dj, by simp, by omega, by omega, hdj, Lib.hid ⟨st1.out, x1.out, by rw [← hR.out.2.2, insOuter.eq_def lt a b i dk, if_pos hlt, ← hRj.out.2.2, e1]⟩⟩, by simp [Go.RowKit.intOf]; omega⟩
          · rw [hv] at hl
            have HV := Lib.hid hv
            clear hv
            go_wp2_with (go_at_fn g; refine hl.mono ?_; rintro e w1 ⟨rfl, q, os, hw1⟩; have st1 := Lib.hid (show St enc k blk off w0 W dj w1 by rw [hw1]; exact HST.out.grow q os); have x1 := Lib.hid (hRj.out.2.1.only (show Only (fun b => b = blk) wr w1 by rw [hw1]; exact only_grow _ q os)); clear hw1; obtain ⟨W2, hsw, st2, on2⟩ := E.swp st1.out hdj (i := j) (j := m) (by omega) (by omega); have ST2 := Lib.hid (And.intro st2 (x1.out.only on2)); clear st2 on2; obtain ⟨d0, d1, -, -⟩ := x1.out)
            have e1 : insInner lt a j dj = insInner lt a m (Sort.swp dj j m) := by
              have := HM.out; subst this
              rw [insInner, if_pos (by rw [HV.out]; simp; omega)]
            exact ⟨⟨m, Sort.swp dj j m, by first | rfl | (rw [hjm]), by have := HM.out; omega, by have := HM.out; omega, by rw [swp_size]; exact hdj, Lib.hid ⟨ST2.out.1, ST2.out.2, by rw [← e1]; exact hRj.out.2.2⟩⟩, by have := HM.out; simp [Go.RowKit.intOf]; omega⟩
        · go_wp2_with fail
          have e1 : insInner lt a j dj = dj := by
            cases j with
            | zero => rfl
            | succ m => rw [insInner, if_neg (by simp; intro h; omega)]
          exact ⟨⟨i + 1, dj, by simp, by omega, by omega, hdj, Lib.hid ⟨HST.out, hRj.out.2.1, by rw [← hR.out.2.2, insOuter.eq_def lt a b i dk, if_pos hlt, ← hRj.out.2.2, e1]⟩⟩, by simp [Go.RowKit.intOf]; omega⟩
    · go_wp2_with fail
      go_end0
      refine ⟨rfl, ?_⟩
      have e1 := hR.out.2.2
      rw [insOuter.eq_def, if_neg hlt] at e1
      rw [← e1]
      exact hR.out.1
end Go.Proofs.YtakhcfemakapbaaGreatDoor.SwB
set_option maxRecDepth 100000
set_option linter.unusedSimpArgs false
set_option linter.unusedVariables false
namespace Go.Proofs.YtakhcfemakapbaaGreatDoor.SwC
open Go Go.Shelf Go.RowKit Go.Sort Go.Proofs.YtakhcfemakapbaaGreatDoor.Mem Go.Proofs.YtakhcfemakapbaaGreatDoor.DuM Go.Proofs.YtakhcfemakapbaaGreatDoor.SwA
variable {α : Type} [Inhabited α]
theorem sd_size {lt : α → α → Bool} (hi first : Nat) : ∀ (n root : Nat) (d : Array α), hi - root ≤ n → (siftDown lt hi first root d).size = d.size
  | 0, root, d, h => by rw [siftDown.eq_def, dif_pos (by omega)]
  | n + 1, root, d, h => by
    rw [siftDown.eq_def]
    split
    · rfl
    · split
      · split
        · rfl
        · split
          · rw [sd_size hi first n _ _ (by omega), swp_size]
          · rfl
      · split
        · rfl
        · rw [sd_size hi first n _ _ (by omega), swp_size]
set_option maxHeartbeats 8000000 in
theorem sift_calls {enc : α → List Value} {k : Nat} {lt : α → α → Bool} {g : Nat} {lb : Array Value} {sf : Nat} {sb : Array Value} {blk off size : Nat} {w0 : World} (E : Env enc k lt g lb sf sb blk off size w0)
    (lo hi first : Nat) (d : Array α) (W : World) (h : SWK enc k w0 blk off d W) (hs : d.size = size) (hlo : lo ≤ size) (hb : first + hi ≤ size) :
    Calls Tryz.prog 101 #[dV g lb sf sb, .int .i64 lo, .int .i64 hi, .int .i64 first] W fun e w' => e = .returned (.tuple #[]) ∧ St enc k blk off w0 W (siftDown lt hi first lo d) w' := by
  have hsz := E.hsz
  have hbl : blk < W.heap.size := h.lt E.hblk
  have eg := E.eg
  have s0 : St enc k blk off w0 W d (W.alloc (.cells #[.func (.func g) #[] lb, .func (.func sf) #[] sb] 105)) := (St.start h).alloc _
  have x0 := Bx.new W (.func (.func g) #[] lb) (.func (.func sf) #[] sb) 105 hbl
  have H0 := Lib.hid (And.intro s0 x0)
  clear s0 x0 h
  go_enter Tryz.func101, Tryz.ntmps101
  go_wp2_with fail
  go_loopw [8] (fun rv wr => ∃ (root : Nat) (dk : Array α), rv = .int .i64 root ∧ root ≤ size ∧ dk.size = size ∧ Hid (St enc k blk off w0 W dk wr ∧ Bx W.heap.size (.func (.func g) #[] lb) (.func (.func sf) #[] sb) blk wr ∧ siftDown lt hi first root dk = siftDown lt hi first lo d)) (fun rv _ => hi - (Go.RowKit.intOf rv).toNat)
  case atStart => exact ⟨lo, d, rfl, hlo, hs, Lib.hid ⟨H0.out.1, H0.out.2, rfl⟩⟩
  case round =>
    obtain ⟨root, dk, rfl, hrt, hds, hR⟩ := hrel
    have hST := Lib.hid hR.out.1
    have hX := Lib.hid hR.out.2.1
    obtain ⟨c0, c1, -, -⟩ := hX.out
    have hE := hR.out.2.2
    rw [siftDown.eq_def] at hE
    obtain ⟨c, hc⟩ : ∃ c, 2 * root + 1 = c := ⟨_, rfl⟩
    have hcz : (2 : Int) * (root : Int) + 1 = (c : Int) := by omega
    by_cases hge : c ≥ hi
    · rw [dif_pos (by omega)] at hE
      have HE := Lib.hid hE
      clear hE
      have hgz : (hi : Int) ≤ (c : Int) := by omega
      go_wp2_with fail
      go_end0
      exact ⟨rfl, by rw [← HE.out]; exact hST.out⟩
    · rw [dif_neg (by omega)] at hE
      have hgz : ¬ (hi : Int) ≤ (c : Int) := by omega
      have fin : ∀ (x : Nat) (w2 : World), root < x → x < hi → St enc k blk off w0 W dk w2 → Bx W.heap.size (.func (.func g) #[] lb) (.func (.func sf) #[] sb) blk w2 →
          Calls Tryz.prog g (#[.int .i64 ((first : Int) + (root : Int)), .int .i64 ((first : Int) + (x : Int))] ++ lb) w2 fun e w' => e = .returned (.bool (lt dk[first + root]! dk[first + x]!)) ∧ ∃ q os, w' = grow (w2.drewN q) os := by
        intro x w2 h1 h2 st2 x2
        have := E.less w2 dk st2.sw hds (first + root) (first + x) (by omega) (by omega)
        simpa using this
      have FIN := Lib.hid fin
      clear fin
      by_cases h2 : c + 1 < hi
      · have h2z : (c : Int) + 1 < (hi : Int) := by omega
        have hl1 := E.less wr dk hST.out.sw hds (first + c) (first + c + 1) (by omega) (by omega)
        have hl1' : Calls Tryz.prog g (#[.int .i64 ((first : Int) + (c : Int)), .int .i64 ((first : Int) + (c : Int) + 1)] ++ lb) wr fun e w' => e = .returned (.bool (lt dk[first + c]! dk[first + c + 1]!)) ∧ ∃ q os, w' = grow (wr.drewN q) os := by simpa using hl1
        have hd1 : decide (2 * root + 1 + 1 < hi) = true := decide_eq_true (by omega)
        rw [hd1, Bool.true_and, hc] at hE
        clear hl1
        cases hv : lt dk[first + c]! dk[first + c + 1]!
        · rw [hv] at hl1' hE
          simp only [Bool.false_eq_true, if_false] at hE
          clear hv
          have HE := Lib.hid hE
          clear hE
          have HL := Lib.hid hl1'
          clear hl1'
          go_wp2_with fail
          refine HL.out.mono ?_
          rintro e w1 ⟨rfl, q, os, hw1⟩
          have on1 : Only (fun b => b = blk) wr w1 := by rw [hw1]; exact only_grow _ q os
          have st1 := Lib.hid (show St enc k blk off w0 W dk w1 by rw [hw1]; exact hST.out.grow q os)
          have x1 := Lib.hid (hX.out.only on1)
          obtain ⟨d0, d1, -, -⟩ := x1.out
          clear hw1 on1 c0 c1
          have hl2 := FIN.out c w1 (by omega) (by omega) st1.out x1.out
          cases hv2 : lt dk[first + root]! dk[first + c]!
          · rw [hv2] at hl2
            have HV := Lib.hid hv2
            clear hv2
            go_wp2_with fail
            refine hl2.mono ?_
            clear hl2
            rintro e w2 ⟨rfl, q2, os2, hw2⟩
            have st2 := Lib.hid (show St enc k blk off w0 W dk w2 by rw [hw2]; exact st1.out.grow q2 os2)
            clear hw2
            go_wp2_with fail
            (first | go_end0 | ((try simp only [Exit.inBlock, Exit.then]); refine bodyPost_ret (results_none rfl _ _ _) rfl ?_))
            refine ⟨rfl, ?_⟩
            have e := HE.out
            rw [HV.out] at e
            simp only [Bool.not_false, if_true] at e
            rw [← e]; exact st2.out
          · rw [hv2] at hl2
            have HV := Lib.hid hv2
            clear hv2
            go_wp2_with fail
            refine hl2.mono ?_
            clear hl2
            rintro e w2 ⟨rfl, q2, os2, hw2⟩
            have on2 : Only (fun b => b = blk) w1 w2 := by rw [hw2]; exact only_grow _ q2 os2
            have st2 := Lib.hid (show St enc k blk off w0 W dk w2 by rw [hw2]; exact st1.out.grow q2 os2)
            have x2 := Lib.hid (x1.out.only on2)
            obtain ⟨f0, f1, -, -⟩ := x2.out
            clear hw2 on2
            obtain ⟨W3, hsw, st3, on3⟩ := E.swp st2.out hds (i := first + root) (j := first + c) (by omega) (by omega)
            have hsw' : (callFunc sf (#[.int .i64 ((first : Int) + (root : Int)), .int .i64 ((first : Int) + (c : Int))] ++ sb)).run Tryz.prog w2 = .ok (.value (.tuple #[])) W3 := by simpa using hsw
            have ST3 := Lib.hid (And.intro st3 (x2.out.only on3))
            clear st3 on3 hsw
            go_wp2_with fail
            have e := HE.out
            rw [HV.out] at e
            simp only [Bool.not_true, Bool.false_eq_true, if_false] at e
            exact ⟨⟨c, Sort.swp dk (first + root) (first + c), rfl, by omega, by rw [swp_size]; exact hds, Lib.hid ⟨ST3.out.1, ST3.out.2, e⟩⟩, by simp [Go.RowKit.intOf]; omega⟩
        · rw [hv] at hl1' hE
          obtain ⟨x, hx⟩ : ∃ x, x = c + 1 := ⟨_, rfl⟩
          have hxz : (c : Int) + 1 = (x : Int) := by omega
          rw [show 2 * root + 2 = x by omega] at hE
          simp only [if_true] at hE
          have HX := Lib.hid hx
          have hxb : root < x ∧ x < hi := by omega
          clear hx
          clear hv
          have HE := Lib.hid hE
          clear hE
          have HL := Lib.hid hl1'
          clear hl1'
          go_wp2_with fail
          refine HL.out.mono ?_
          rintro e w1 ⟨rfl, q, os, hw1⟩
          have on1 : Only (fun b => b = blk) wr w1 := by rw [hw1]; exact only_grow _ q os
          have st1 := Lib.hid (show St enc k blk off w0 W dk w1 by rw [hw1]; exact hST.out.grow q os)
          have x1 := Lib.hid (hX.out.only on1)
          obtain ⟨d0, d1, -, -⟩ := x1.out
          clear hw1 on1 c0 c1
          have hl2 := FIN.out x w1 (by omega) (by omega) st1.out x1.out
          cases hv2 : lt dk[first + root]! dk[first + x]!
          · rw [hv2] at hl2
            have HV := Lib.hid hv2
            clear hv2
            go_wp2_with fail
            refine hl2.mono ?_
            clear hl2
            rintro e w2 ⟨rfl, q2, os2, hw2⟩
            have st2 := Lib.hid (show St enc k blk off w0 W dk w2 by rw [hw2]; exact st1.out.grow q2 os2)
            clear hw2
            go_wp2_with fail
            (first | go_end0 | ((try simp only [Exit.inBlock, Exit.then]); refine bodyPost_ret (results_none rfl _ _ _) rfl ?_))
            refine ⟨rfl, ?_⟩
            have e := HE.out
            rw [HV.out] at e
            simp only [Bool.not_false, if_true] at e
            rw [← e]; exact st2.out
          · rw [hv2] at hl2
            have HV := Lib.hid hv2
            clear hv2
            go_wp2_with fail
            refine hl2.mono ?_
            clear hl2
            rintro e w2 ⟨rfl, q2, os2, hw2⟩
            have on2 : Only (fun b => b = blk) w1 w2 := by rw [hw2]; exact only_grow _ q2 os2
            have st2 := Lib.hid (show St enc k blk off w0 W dk w2 by rw [hw2]; exact st1.out.grow q2 os2)
            have x2 := Lib.hid (x1.out.only on2)
            obtain ⟨f0, f1, -, -⟩ := x2.out
            clear hw2 on2
            obtain ⟨W3, hsw, st3, on3⟩ := E.swp st2.out hds (i := first + root) (j := first + x) (by omega) (by omega)
            have hsw' : (callFunc sf (#[.int .i64 ((first : Int) + (root : Int)), .int .i64 ((first : Int) + (x : Int))] ++ sb)).run Tryz.prog w2 = .ok (.value (.tuple #[])) W3 := by simpa using hsw
            have ST3 := Lib.hid (And.intro st3 (x2.out.only on3))
            clear st3 on3 hsw
            go_wp2_with fail
            have e := HE.out
            rw [HV.out] at e
            simp only [Bool.not_true, Bool.false_eq_true, if_false] at e
            rw [dif_pos (by omega)] at e
            exact ⟨⟨x, Sort.swp dk (first + root) (first + x), rfl, by omega, by rw [swp_size]; exact hds, Lib.hid ⟨ST3.out.1, ST3.out.2, e⟩⟩, by simp [Go.RowKit.intOf]; omega⟩
      · have h2z : ¬ (c : Int) + 1 < (hi : Int) := by omega
        have hd1 : decide (2 * root + 1 + 1 < hi) = false := decide_eq_false (by omega)
        rw [hd1, Bool.false_and, hc] at hE
        simp only [Bool.false_eq_true, if_false] at hE
        have HE := Lib.hid hE
        clear hE
        have hl2 := FIN.out c wr (by omega) (by omega) hST.out hX.out
        cases hv2 : lt dk[first + root]! dk[first + c]!
        · rw [hv2] at hl2
          have HV := Lib.hid hv2
          clear hv2
          go_wp2_with fail
          refine hl2.mono ?_
          clear hl2
          rintro e w2 ⟨rfl, q2, os2, hw2⟩
          have st2 := Lib.hid (show St enc k blk off w0 W dk w2 by rw [hw2]; exact hST.out.grow q2 os2)
          clear hw2
          go_wp2_with fail
          (first | go_end0 | ((try simp only [Exit.inBlock, Exit.then]); refine bodyPost_ret (results_none rfl _ _ _) rfl ?_))
          refine ⟨rfl, ?_⟩
          have e := HE.out
          rw [HV.out] at e
          simp only [Bool.not_false, if_true] at e
          rw [← e]; exact st2.out
        · rw [hv2] at hl2
          have HV := Lib.hid hv2
          clear hv2
          go_wp2_with fail
          refine hl2.mono ?_
          clear hl2
          rintro e w2 ⟨rfl, q2, os2, hw2⟩
          have on2 : Only (fun b => b = blk) wr w2 := by rw [hw2]; exact only_grow _ q2 os2
          have st2 := Lib.hid (show St enc k blk off w0 W dk w2 by rw [hw2]; exact hST.out.grow q2 os2)
          have x2 := Lib.hid (hX.out.only on2)
          obtain ⟨f0, f1, -, -⟩ := x2.out
          clear hw2 on2
          obtain ⟨W3, hsw, st3, on3⟩ := E.swp st2.out hds (i := first + root) (j := first + c) (by omega) (by omega)
          have hsw' : (callFunc sf (#[.int .i64 ((first : Int) + (root : Int)), .int .i64 ((first : Int) + (c : Int))] ++ sb)).run Tryz.prog w2 = .ok (.value (.tuple #[])) W3 := by simpa using hsw
          have ST3 := Lib.hid (And.intro st3 (x2.out.only on3))
          clear st3 on3 hsw
          go_wp2_with fail
          have e := HE.out
          rw [HV.out] at e
          simp only [Bool.not_true, Bool.false_eq_true, if_false] at e
          exact ⟨⟨c, Sort.swp dk (first + root) (first + c), rfl, by omega, by rw [swp_size]; exact hds, Lib.hid ⟨ST3.out.1, ST3.out.2, e⟩⟩, by simp [Go.RowKit.intOf]; omega⟩
end Go.Proofs.YtakhcfemakapbaaGreatDoor.SwC
set_option maxRecDepth 100000
set_option linter.unusedSimpArgs false
set_option linter.unusedVariables false
namespace Go.Proofs.YtakhcfemakapbaaGreatDoor.SwD
open Go Go.Shelf Go.RowKit Go.Sort Go.Proofs.YtakhcfemakapbaaGreatDoor.Mem Go.Proofs.YtakhcfemakapbaaGreatDoor.DuM Go.Proofs.YtakhcfemakapbaaGreatDoor.SwA Go.Proofs.YtakhcfemakapbaaGreatDoor.SwC
variable {α : Type} [Inhabited α]
set_option maxHeartbeats 8000000 in
theorem heap_calls {enc : α → List Value} {k : Nat} {lt : α → α → Bool} {g : Nat} {lb : Array Value} {sf : Nat} {sb : Array Value} {blk off size : Nat} {w0 : World} (E : Env enc k lt g lb sf sb blk off size w0)
    (a b : Nat) (d : Array α) (W : World) (h : SWK enc k w0 blk off d W) (hs : d.size = size) (hab : a < b) (hb : b ≤ size) :
    Calls Tryz.prog 90 #[dV g lb sf sb, .int .i64 a, .int .i64 b] W fun e w' => e = .returned (.tuple #[]) ∧ St enc k blk off w0 W (heapSort lt d a b) w' := by
  have hsz := E.hsz
  have hbl : blk < W.heap.size := h.lt E.hblk
  have s0 : St enc k blk off w0 W d (W.alloc (.cells #[.func (.func g) #[] lb, .func (.func sf) #[] sb] 105)) := (St.start h).alloc _
  have x0 := Bx.new W (.func (.func g) #[] lb) (.func (.func sf) #[] sb) 105 hbl
  have H0 := Lib.hid (And.intro s0 x0)
  obtain ⟨n, hn⟩ : ∃ n, b - a = n := ⟨_, rfl⟩
  have hnz : (b : Int) - (a : Int) = (n : Int) := by omega
  have hnsz : a + n ≤ size := by omega
  have hn1 : 1 ≤ n := by omega
  have hq : Int.tdiv ((n : Int) - 1) 2 = (((n - 1) / 2 : Nat) : Int) := by
    rw [Int.tdiv_eq_ediv_of_nonneg (by omega)]
    omega
  clear s0 x0 h
  go_enter Tryz.func90, Tryz.ntmps90
  go_wp2_with fail
  go_loopw [9] (fun iv wr => ∃ (kk : Nat) (dk : Array α), iv = .int .i64 ((kk : Int) - 1) ∧ kk ≤ (n - 1) / 2 + 1 ∧ dk.size = size ∧ Hid (St enc k blk off w0 W dk wr ∧ Bx W.heap.size (.func (.func g) #[] lb) (.func (.func sf) #[] sb) blk wr ∧ heapBuild lt n a kk dk = heapBuild lt n a ((n - 1) / 2 + 1) d)) (fun iv _ => (Go.RowKit.intOf iv + 1).toNat)
  case atStart => exact ⟨(n - 1) / 2 + 1, d, by simp, Nat.le_refl _, hs, Lib.hid ⟨H0.out.1, H0.out.2, rfl⟩⟩
  case round =>
    obtain ⟨kk, dk, rfl, hkk, hds, hR⟩ := hrel
    obtain ⟨c0, c1, -, -⟩ := hR.out.2.1
    rcases Nat.eq_zero_or_pos kk with h0 | h0
    · subst h0
      rw [show (((0 : Nat) : Int) - 1) = -1 by rfl]
      go_wp2_with fail
      go_loopw [10] (fun iv wr => ∃ (kk : Nat) (dj : Array α), iv = .int .i64 ((kk : Int) - 1) ∧ kk ≤ n ∧ dj.size = size ∧ Hid (St enc k blk off w0 W dj wr ∧ Bx W.heap.size (.func (.func g) #[] lb) (.func (.func sf) #[] sb) blk wr ∧ heapPop lt a kk dj = heapSort lt d a b)) (fun iv _ => (Go.RowKit.intOf iv + 1).toNat)
      case atStart => exact ⟨n, dk, rfl, Nat.le_refl _, hds, Lib.hid ⟨hR.out.1, hR.out.2.1, by unfold heapSort; rw [hn, ← hR.out.2.2]; rfl⟩⟩
      case round =>
        obtain ⟨kj, dj, rfl, hkj, hdj, hRj⟩ := hrel
        obtain ⟨e0, e1, -, -⟩ := hRj.out.2.1
        rcases Nat.eq_zero_or_pos kj with h1 | h1
        · subst h1
          go_wp2_with fail
          go_end0
          exact ⟨rfl, by rw [← hRj.out.2.2]; exact hRj.out.1⟩
        · obtain ⟨m, rfl⟩ : ∃ m, kj = m + 1 := ⟨kj - 1, by omega⟩
          have hmz : ((m + 1 : Nat) : Int) - 1 = (m : Int) := by omega
          obtain ⟨W3, hsw, st3, on3⟩ := E.swp hRj.out.1 hdj (i := a) (j := a + m) (by omega) (by omega)
          have hsw' : (callFunc sf (#[.int .i64 (a : Int), .int .i64 ((a : Int) + (m : Int))] ++ sb)).run Tryz.prog wr = .ok (.value (.tuple #[])) W3 := by simpa using hsw
          have hsf := sift_calls E 0 m a (Sort.swp dj a (a + m)) W3 st3.sw (by rw [swp_size]; exact hdj) (by omega) (by omega)
          have x3 := hRj.out.2.1.only on3
          have ST3 := Lib.hid (And.intro st3 x3)
          obtain ⟨f0, f1, -, -⟩ := x3
          have HSF := Lib.hid hsf
          clear st3 on3 hsw hsf
          rw [hmz]
          go_wp2_with fail
          refine HSF.out.mono ?_
          rintro e w4 ⟨rfl, s4⟩
          have S4 := Lib.hid (And.intro (ST3.out.1.trans s4) (ST3.out.2.only s4.on))
          clear s4 f0 f1
          go_wp2_with fail
          exact ⟨⟨m, siftDown lt m a 0 (Sort.swp dj a (a + m)), rfl, by omega, by rw [sd_size _ _ _ _ _ (Nat.le_refl _), swp_size]; exact hdj, Lib.hid ⟨S4.out.1, S4.out.2, hRj.out.2.2⟩⟩, by simp [Go.RowKit.intOf]⟩
    · obtain ⟨m, rfl⟩ : ∃ m, kk = m + 1 := ⟨kk - 1, by omega⟩
      have hmz : ((m + 1 : Nat) : Int) - 1 = (m : Int) := by omega
      have hsf := sift_calls E m n a dk wr hR.out.1.sw hds (by omega) (by omega)
      have HSF := Lib.hid hsf
      clear hsf
      rw [hmz]
      go_wp2_with fail
      refine HSF.out.mono ?_
      rintro e w4 ⟨rfl, s4⟩
      have S4 := Lib.hid (And.intro (hR.out.1.trans s4) (hR.out.2.1.only s4.on))
      clear s4
      go_wp2_with fail
      exact ⟨⟨m, siftDown lt n a m dk, rfl, by omega, by rw [sd_size _ _ _ _ _ (Nat.le_refl _)]; exact hds, Lib.hid ⟨S4.out.1, S4.out.2, hR.out.2.2⟩⟩, by simp [Go.RowKit.intOf]⟩
end Go.Proofs.YtakhcfemakapbaaGreatDoor.SwD
