/-
  rank.lets, compare, Scores$1, Names$1. Conditions: as stated.
  rank.part; Scores, Names. Conditions: as stated.
  A Rank's Scores, Names. Conditions: as stated.
  The document's order, texts. Conditions: as stated.
-/
import Derived.Test.YtakhcfemakapbaaGreatDoorRgC
import Derived.Laws.Cover1
import Derived.Deep.Cut
import Derived.Test.YtakhcfemakapbaaGreatDoorRgE
set_option maxRecDepth 100000
set_option linter.unusedSimpArgs false
set_option linter.unusedVariables false
namespace Go.Proofs.YtakhcfemakapbaaGreatDoor.RkS
open Go Go.RowKit Go.Shelf Go.Sort Go.Proofs.YtakhcfemakapbaaGreatDoor.Mem Go.Proofs.YtakhcfemakapbaaGreatDoor.DuA Go.Proofs.YtakhcfemakapbaaGreatDoor.DuM Go.Proofs.YtakhcfemakapbaaGreatDoor.DuN Go.Proofs.YtakhcfemakapbaaGreatDoor.RkA Go.Proofs.YtakhcfemakapbaaGreatDoor.RkC Go.Proofs.YtakhcfemakapbaaGreatDoor.RkB Go.Proofs.YtakhcfemakapbaaGreatDoor.RkE Go.Proofs.YtakhcfemakapbaaGreatDoor.RkI

abbrev bV (b : Bd) : Value := .agg #[.int .i64 b.inf, .bool b.opn, .int .i64 b.score, .string b.name]
abbrev bo (b : Bd) : Obj := .cells #[.int .i64 b.inf, .bool b.opn, .int .i64 b.score, .string b.name] 39
theorem lets_calls (b : Bd) (side c : Int) (w : World) : Calls Tryz.prog 52 #[bV b, .int .i64 side, .int .i64 c] w fun e w' => e = .returned (.bool (letB b c (decide (side = 0)))) ∧ w' = w.alloc (bo b) := by
  obtain ⟨inf, opn, score, name⟩ := b
  unfold letB
  simp only
  have hs : (side == 0) = decide (side = 0) := by by_cases h : side = 0 <;> simp [h]
  obtain ⟨S, hS⟩ : ∃ S, S = decide (side = 0) := ⟨_, rfl⟩
  rw [← hS] at hs ⊢
  clear hS
  by_cases h1 : inf = 0
  · have h1' : (inf != 0) = false := by simp [h1]
    rw [if_neg (by simp [h1])]
    by_cases h2 : c = 0
    · have h2' : (c == 0) = true := by simp [h2]
      rw [if_pos h2]
      clear h1 h2
      go_enter Tryz.func52, Tryz.ntmps52
      go_wp2_with fail
      go_ret
      exact ⟨rfl, rfl⟩
    · have h2' : (c == 0) = false := by simp [h2]
      rw [if_neg h2]
      clear h1 h2
      go_enter Tryz.func52, Tryz.ntmps52
      go_wp2_with fail
      go_ret
      exact ⟨rfl, rfl⟩
  · have h1' : (inf != 0) = true := by simp [h1]
    rw [if_pos (by simpa using h1)]
    clear h1
    go_enter Tryz.func52, Tryz.ntmps52
    go_wp2_with fail
    go_ret
    exact ⟨rfl, rfl⟩
theorem lets_grown (b : Bd) (side c : Int) (w : World) : Calls Tryz.prog 52 #[bV b, .int .i64 side, .int .i64 c] w fun e w' => e = .returned (.bool (letB b c (decide (side = 0)))) ∧ ∃ q os, w' = grow (w.drewN q) os := by
  refine (lets_calls b side c w).mono ?_
  rintro e w' ⟨rfl, rfl⟩
  exact ⟨rfl, 0, _, by rw [alloc_eq_grow]; rfl⟩
theorem cmpI_calls (a b : Int) (w : World) : Calls Tryz.prog 53 #[.int .i64 a, .int .i64 b] w fun e w' => e = .returned (.int .i64 (cmpI a b)) ∧ w' = w := by
  unfold cmpI
  by_cases h1 : a < b
  · rw [if_pos h1]
    go_enter Tryz.func53, Tryz.ntmps53
    go_wp2_with fail
    go_ret
    exact ⟨rfl, rfl⟩
  · rw [if_neg h1]
    by_cases h2 : b < a
    · rw [if_pos h2]
      go_enter Tryz.func53, Tryz.ntmps53
      go_wp2_with fail
      go_ret
      exact ⟨rfl, rfl⟩
    · rw [if_neg h2]
      go_enter Tryz.func53, Tryz.ntmps53
      go_wp2_with fail
      go_ret
      exact ⟨rfl, rfl⟩
theorem gtr_is (a b : ByteArray) : (!(Op.bytesLess a.toList b.toList || a.toList == b.toList)) = ltS b a := by
  rw [leS]
  simp
theorem cmpT_calls (a b : ByteArray) (w : World) : Calls Tryz.prog 64 #[.string a, .string b] w fun e w' => e = .returned (.int .i64 (cmpT a b)) ∧ w' = w := by
  unfold cmpT
  have hg := gtr_is a b
  cases h1 : ltS a b
  · rw [if_neg (by simp)]
    have h1' : Op.bytesLess a.toList b.toList = false := h1
    cases h2 : ltS b a
    · rw [if_neg (by simp)]
      rw [h2, h1', Bool.false_or] at hg
      clear h1 h2
      go_enter Tryz.func64, Tryz.ntmps64
      go_wp2_with fail
      go_ret
      exact ⟨rfl, rfl⟩
    · rw [if_pos rfl]
      rw [h2, h1', Bool.false_or] at hg
      clear h1 h2
      go_enter Tryz.func64, Tryz.ntmps64
      go_wp2_with fail
      go_ret
      exact ⟨rfl, rfl⟩
  · rw [if_pos rfl]
    have h1' : Op.bytesLess a.toList b.toList = true := h1
    clear h1 hg
    go_enter Tryz.func64, Tryz.ntmps64
    go_wp2_with fail
    go_ret
    exact ⟨rfl, rfl⟩
/-- A bound in its box. -/
structure Bxd (W : World) (q : Nat) (b : Bd) : Prop where
  c0 : W.cell? ⟨q, 0, none⟩ = some (.int .i64 b.inf)
  c1 : W.cell? ⟨q, 1, none⟩ = some (.bool b.opn)
  c2 : W.cell? ⟨q, 2, none⟩ = some (.int .i64 b.score)
  c3 : W.cell? ⟨q, 3, none⟩ = some (.string b.name)
theorem Bxd.below {W W' : World} {q : Nat} {b : Bd} (h : Bxd W q b) (hb : Below W.heap.size W W') : Bxd W' q b := ⟨cell_b h.c0 hb, cell_b h.c1 hb, cell_b h.c2 hb, cell_b h.c3 hb⟩
theorem Bxd.gr {W : World} {q : Nat} {b : Bd} (h : Bxd W q b) (n : Nat) (os : Array Obj) : Bxd (grow (W.drewN n) os) q b := ⟨cell_grown (cell_lt h.c0) h.c0 n os, cell_grown (cell_lt h.c1) h.c1 n os, cell_grown (cell_lt h.c2) h.c2 n os, cell_grown (cell_lt h.c3) h.c3 n os⟩
theorem lets_lo (b : Bd) (c : Int) (w : World) : Calls Tryz.prog 52 #[bV b, .int .i64 0, .int .i64 c] w fun e w' => e = .returned (.bool (letB b c true)) ∧ ∃ q os, w' = grow (w.drewN q) os := lets_grown b 0 c w
theorem lets_hi (b : Bd) (c : Int) (w : World) : Calls Tryz.prog 52 #[bV b, .int .i64 1, .int .i64 c] w fun e w' => e = .returned (.bool (letB b c false)) ∧ ∃ q os, w' = grow (w.drewN q) os := lets_grown b 1 c w
theorem cmpI_grown (a b : Int) (w : World) : Calls Tryz.prog 53 #[.int .i64 a, .int .i64 b] w fun e w' => e = .returned (.int .i64 (cmpI a b)) ∧ ∃ q os, w' = grow (w.drewN q) os := by
  refine (cmpI_calls a b w).mono ?_
  rintro e w' ⟨rfl, rfl⟩
  exact ⟨rfl, 0, #[], by rw [grow_empty]; rfl⟩
theorem cmpT_grown (a b : ByteArray) (w : World) : Calls Tryz.prog 64 #[.string a, .string b] w fun e w' => e = .returned (.int .i64 (cmpT a b)) ∧ ∃ q os, w' = grow (w.drewN q) os := by
  refine (cmpT_calls a b w).mono ?_
  rintro e w' ⟨rfl, rfl⟩
  exact ⟨rfl, 0, #[], by rw [grow_empty]; rfl⟩
theorem below_grow_ {w : World} (m : Nat) (os : Array Obj) : RowKit.Below w.heap.size w (grow (w.drewN m) os) := ⟨rfl, rfl, rfl, by simp [grow], fun i hi => by simp [grow, Array.getElem?_append, hi]⟩
set_option maxHeartbeats 1000000 in
theorem inS_calls (x : En) (lo hi : Bd) (p q : Nat) (W : World) (hp : Bxd W p lo) (hq : Bxd W q hi) :
    Calls Tryz.prog 51 #[eV x, .pointer (some ⟨p, 0, none⟩), .pointer (some ⟨q, 0, none⟩)] W fun e w' => e = .returned (.bool (inS lo hi x)) ∧ Below W.heap.size W w' := by
  obtain ⟨s, nm⟩ := x
  unfold inS
  simp only
  obtain ⟨W1, hW1⟩ : ∃ W1, W1 = W.alloc (.cells #[.string nm, .int .i64 s] 51) := ⟨_, rfl⟩
  have b1 : Below W.heap.size W W1 := by rw [hW1]; exact al W _
  have e0 : W1.cell? ⟨W.heap.size, 0, none⟩ = some (.string nm) := by rw [hW1]; exact (eo_cells W (s, nm)).1
  have e1 : W1.cell? ⟨W.heap.size, 1, none⟩ = some (.int .i64 s) := by rw [hW1]; exact (eo_cells W (s, nm)).2
  have g0 := fun n os => cell_grown (cell_lt e0) e0 n os
  have g1 := fun n os => cell_grown (cell_lt e1) e1 n os
  have p0 := fun n os => ((hp.below b1).gr n os).c0
  have p1 := fun n os => ((hp.below b1).gr n os).c1
  have p2 := fun n os => ((hp.below b1).gr n os).c2
  have p3 := fun n os => ((hp.below b1).gr n os).c3
  have q0 := fun n os => ((hq.below b1).gr n os).c0
  have q1 := fun n os => ((hq.below b1).gr n os).c1
  have q2 := fun n os => ((hq.below b1).gr n os).c2
  have q3 := fun n os => ((hq.below b1).gr n os).c3
  have mixed : Tryz.prog.follows .mixedOrders = true := by kernel_rfl
  obtain ⟨C1, hC1⟩ : ∃ C1, C1 = cmpI s lo.score := ⟨_, rfl⟩
  obtain ⟨C2, hC2⟩ : ∃ C2, C2 = cmpI s hi.score := ⟨_, rfl⟩
  have hcl := fun (n : Nat) (os : Array Obj) => cmpI_grown s lo.score (grow (W1.drewN n) os)
  have hch := fun (n : Nat) (os : Array Obj) => cmpI_grown s hi.score (grow (W1.drewN n) os)
  rw [← hC1, ← hC2]
  simp only [← hC1] at hcl
  simp only [← hC2] at hch
  clear hC1 hC2
  obtain ⟨R1, hR1⟩ : ∃ R1, R1 = letB lo C1 true := ⟨_, rfl⟩
  obtain ⟨R2, hR2⟩ : ∃ R2, R2 = letB hi C2 false := ⟨_, rfl⟩
  have hlo := fun (n : Nat) (os : Array Obj) => lets_lo lo C1 (grow (W1.drewN n) os)
  have hhi := fun (n : Nat) (os : Array Obj) => lets_hi hi C2 (grow (W1.drewN n) os)
  rw [← hR1, ← hR2]
  simp only [← hR1] at hlo
  simp only [← hR2] at hhi
  have HB := Lib.hid b1
  clear hR1 hR2 e0 e1 b1 hp hq
  cases R1
  · go_enter Tryz.func51, Tryz.ntmps51
    go_upto_region 1 with fail
    rw [← hW1]
    clear hW1
    go_quiet_grown (first | (go_at_call 53; with_reducible refine Calls.grown_of (hcl _ _)) | (go_at_call 53; refine Calls.grown_of (hch _ _)) | (go_at_call 52; with_reducible refine Calls.grown_of (hlo _ _)) | (go_at_call 52; refine Calls.grown_of (hhi _ _)))
    go_wp2_with fail
    go_ret
    exact ⟨rfl, HB.out.trans ((below_grow_ nq osq).mono HB.out.size)⟩
  · go_enter Tryz.func51, Tryz.ntmps51
    go_upto_region 1 with fail
    rw [← hW1]
    clear hW1
    go_quiet_grown (first | (go_at_call 53; with_reducible refine Calls.grown_of (hcl _ _)) | (go_at_call 53; refine Calls.grown_of (hch _ _)) | (go_at_call 52; with_reducible refine Calls.grown_of (hlo _ _)) | (go_at_call 52; refine Calls.grown_of (hhi _ _)))
    go_wp2_with fail
    go_ret
    exact ⟨rfl, HB.out.trans ((below_grow_ nq osq).mono HB.out.size)⟩
set_option maxHeartbeats 1000000 in
theorem inN_calls (x : En) (lo hi : Bd) (p q : Nat) (W : World) (hp : Bxd W p lo) (hq : Bxd W q hi) :
    Calls Tryz.prog 63 #[eV x, .pointer (some ⟨p, 0, none⟩), .pointer (some ⟨q, 0, none⟩)] W fun e w' => e = .returned (.bool (inN lo hi x)) ∧ Below W.heap.size W w' := by
  obtain ⟨s, nm⟩ := x
  unfold inN
  simp only
  obtain ⟨W1, hW1⟩ : ∃ W1, W1 = W.alloc (.cells #[.string nm, .int .i64 s] 51) := ⟨_, rfl⟩
  have b1 : Below W.heap.size W W1 := by rw [hW1]; exact al W _
  have e0 : W1.cell? ⟨W.heap.size, 0, none⟩ = some (.string nm) := by rw [hW1]; exact (eo_cells W (s, nm)).1
  have e1 : W1.cell? ⟨W.heap.size, 1, none⟩ = some (.int .i64 s) := by rw [hW1]; exact (eo_cells W (s, nm)).2
  have g0 := fun n os => cell_grown (cell_lt e0) e0 n os
  have g1 := fun n os => cell_grown (cell_lt e1) e1 n os
  have p0 := fun n os => ((hp.below b1).gr n os).c0
  have p1 := fun n os => ((hp.below b1).gr n os).c1
  have p2 := fun n os => ((hp.below b1).gr n os).c2
  have p3 := fun n os => ((hp.below b1).gr n os).c3
  have q0 := fun n os => ((hq.below b1).gr n os).c0
  have q1 := fun n os => ((hq.below b1).gr n os).c1
  have q2 := fun n os => ((hq.below b1).gr n os).c2
  have q3 := fun n os => ((hq.below b1).gr n os).c3
  have mixed : Tryz.prog.follows .mixedOrders = true := by kernel_rfl
  obtain ⟨C1, hC1⟩ : ∃ C1, C1 = cmpT nm lo.name := ⟨_, rfl⟩
  obtain ⟨C2, hC2⟩ : ∃ C2, C2 = cmpT nm hi.name := ⟨_, rfl⟩
  have hcl := fun (n : Nat) (os : Array Obj) => cmpT_grown nm lo.name (grow (W1.drewN n) os)
  have hch := fun (n : Nat) (os : Array Obj) => cmpT_grown nm hi.name (grow (W1.drewN n) os)
  rw [← hC1, ← hC2]
  simp only [← hC1] at hcl
  simp only [← hC2] at hch
  clear hC1 hC2
  obtain ⟨R1, hR1⟩ : ∃ R1, R1 = letB lo C1 true := ⟨_, rfl⟩
  obtain ⟨R2, hR2⟩ : ∃ R2, R2 = letB hi C2 false := ⟨_, rfl⟩
  have hlo := fun (n : Nat) (os : Array Obj) => lets_lo lo C1 (grow (W1.drewN n) os)
  have hhi := fun (n : Nat) (os : Array Obj) => lets_hi hi C2 (grow (W1.drewN n) os)
  rw [← hR1, ← hR2]
  simp only [← hR1] at hlo
  simp only [← hR2] at hhi
  have HB := Lib.hid b1
  clear hR1 hR2 e0 e1 b1 hp hq
  cases R1
  · go_enter Tryz.func63, Tryz.ntmps63
    go_upto_region 1 with fail
    rw [← hW1]
    clear hW1
    go_quiet_grown (first | (go_at_call 64; with_reducible refine Calls.grown_of (hcl _ _)) | (go_at_call 64; refine Calls.grown_of (hch _ _)) | (go_at_call 52; with_reducible refine Calls.grown_of (hlo _ _)) | (go_at_call 52; refine Calls.grown_of (hhi _ _)))
    go_wp2_with fail
    go_ret
    exact ⟨rfl, HB.out.trans ((below_grow_ nq osq).mono HB.out.size)⟩
  · go_enter Tryz.func63, Tryz.ntmps63
    go_upto_region 1 with fail
    rw [← hW1]
    clear hW1
    go_quiet_grown (first | (go_at_call 64; with_reducible refine Calls.grown_of (hcl _ _)) | (go_at_call 64; refine Calls.grown_of (hch _ _)) | (go_at_call 52; with_reducible refine Calls.grown_of (hlo _ _)) | (go_at_call 52; refine Calls.grown_of (hhi _ _)))
    go_wp2_with fail
    go_ret
    exact ⟨rfl, HB.out.trans ((below_grow_ nq osq).mono HB.out.size)⟩
end Go.Proofs.YtakhcfemakapbaaGreatDoor.RkS
set_option maxRecDepth 100000
set_option linter.unusedSimpArgs false
set_option linter.unusedVariables false
namespace Go.Proofs.YtakhcfemakapbaaGreatDoor.RkT
open Go Go.RowKit Go.Shelf Go.Proofs.YtakhcfemakapbaaGreatDoor.Mem Go.Proofs.YtakhcfemakapbaaGreatDoor.DuA Go.Proofs.YtakhcfemakapbaaGreatDoor.DuM Go.Proofs.YtakhcfemakapbaaGreatDoor.DuN Go.Proofs.YtakhcfemakapbaaGreatDoor.RkA Go.Proofs.YtakhcfemakapbaaGreatDoor.RkC Go.Proofs.YtakhcfemakapbaaGreatDoor.RkB Go.Proofs.YtakhcfemakapbaaGreatDoor.RkE Go.Proofs.YtakhcfemakapbaaGreatDoor.RkF Go.Proofs.YtakhcfemakapbaaGreatDoor.RkH Go.Proofs.YtakhcfemakapbaaGreatDoor.RkI Go.Proofs.YtakhcfemakapbaaGreatDoor.RkL Go.Proofs.YtakhcfemakapbaaGreatDoor.RkM Go.Proofs.YtakhcfemakapbaaGreatDoor.RkO Go.Proofs.YtakhcfemakapbaaGreatDoor.RkP Go.Proofs.YtakhcfemakapbaaGreatDoor.RkS

/-- part, round for round. -/
def goP (p : En → Bool) (most : Int) : List En → Int → Nat → List En
  | [], _, _ => []
  | e :: r, s, o => if p e then (if 0 < s then goP p most r (s - 1) o else if 0 ≤ most ∧ most ≤ o then [] else e :: goP p most r s (o + 1)) else goP p most r s o
theorem goP_is (p : En → Bool) (most : Int) : ∀ (L : List En) (s : Int) (o : Nat), goP p most L s o = if most < 0 then (L.filter p).drop s.toNat else ((L.filter p).drop s.toNat).take (most - o).toNat
  | [], s, o => by simp [goP]
  | e :: r, s, o => by
    unfold goP
    by_cases hp : p e = true
    · rw [if_pos hp, List.filter_cons_of_pos hp]
      by_cases hs : 0 < s
      · rw [if_pos hs, goP_is p most r (s - 1) o]
        obtain ⟨k, hk⟩ : ∃ k : Nat, s = k + 1 := ⟨(s - 1).toNat, by omega⟩
        subst hk
        simp
      · rw [if_neg hs, show s.toNat = 0 by omega, List.drop_zero]
        by_cases hm : most < 0
        · rw [if_neg (by omega), if_pos hm, goP_is p most r s (o + 1), if_pos hm, show s.toNat = 0 by omega, List.drop_zero]
        · rw [if_neg hm]
          by_cases ho : most ≤ o
          · rw [if_pos ⟨by omega, ho⟩, show (most - o).toNat = 0 by omega, List.take_zero]
          · rw [if_neg (by omega), goP_is p most r s (o + 1), if_neg hm, show s.toNat = 0 by omega, List.drop_zero, show (most - o).toNat = (most - ((o + 1 : Nat) : Int)).toNat + 1 by omega, List.take_succ_cons]
    · rw [if_neg hp, List.filter_cons_of_neg hp, goP_is p most r s o]
theorem goP_cut (p : En → Bool) (most : Int) (L : List En) (s : Int) : goP p most L s 0 = cutL (L.filter p) s most := by
  rw [goP_is]
  unfold cutL
  simp
set_option maxHeartbeats 8000000 in
theorem part_calls (p : En → Bool) (fk : Nat) (cb : Array Value) (eg : ∀ args w, (callFunc fk args).run Tryz.prog w = .ok (.enter fk args) w) (A : Option Addr) (n c : Nat) (L : List En) (skip most : Int) (w : World) (hr : RdE w A n c L) (hn : n ≤ 1000000000) (hs : inI skip) (hm : inI most)
    (hk : ∀ W x, Below w.heap.size w W → Calls Tryz.prog fk (#[eV x] ++ cb) W fun e w' => e = .returned (.bool (p x)) ∧ Below W.heap.size W w') :
    Calls Tryz.prog 50 #[.slice A n c, .func (.func fk) #[] cb, .int .i64 skip, .int .i64 most] w fun e w' => ∃ v', e = .returned v' ∧ OwnE w' w.heap.size v' (cutL (L.filter p) skip most) ∧ Below w.heap.size w w' := by
  rw [← goP_cut]
  obtain rfl := rde_len hr
  obtain ⟨hs1, hs2⟩ := hs
  obtain ⟨hm1, hm2⟩ := hm
  have HR := Lib.hid hr
  have HK := Lib.hid hk
  clear hr hk
  go_enter Tryz.func50, Tryz.ntmps50
  go_wp2_with fail
  go_loopw [2, 9, 14] (fun sk ov iv wr => ∃ (j : Nat) (s : Int) (O : List En), iv = .int .i64 j ∧ sk = .int .i64 s ∧ j ≤ L.length ∧ O.length ≤ j ∧ s ≤ skip ∧ -9223372036854775808 ≤ s ∧ Hid (OwnE wr w.heap.size ov O ∧ Below w.heap.size w wr ∧ O ++ goP p most (L.drop j) s O.length = goP p most L skip 0)) (fun _ _ iv _ => L.length - (RowKit.intOf iv).toNat)
  case atStart => exact ⟨0, skip, [], rfl, rfl, Nat.zero_le _, Nat.le_refl _, Int.le_refl _, hs1, Lib.hid ⟨World.ownsRow_nil _ _ _ _, Below.refl _ _, by simp⟩⟩
  case round =>
    obtain ⟨j, s, O, rfl, rfl, hj, hOj, hss, hs0, hX⟩ := hrel
    obtain ⟨A2, c2, rfl⟩ := own_form hX.out.1
    by_cases hlt : j < L.length
    · obtain ⟨y, hy⟩ : ∃ y, L[j]? = some y := ⟨_, List.getElem?_eq_getElem hlt⟩
      obtain ⟨q, rfl, x0, x1⟩ := rde_get (HR.out.below hX.out.2.1) hy
      have hdr : L.drop j = y :: L.drop (j + 1) := by
        have := (List.getElem?_eq_some_iff.1 hy).2
        rw [← this]
        exact List.drop_eq_getElem_cons hlt
      have hE := hX.out.2.2
      rw [hdr, goP] at hE
      have b3 : Below wr.heap.size wr (wr.alloc (eo y)) := al wr _
      have hkp := HK.out (wr.alloc (eo y)) y (hX.out.2.1.trans (b3.mono hX.out.2.1.size))
      have HB3 := Lib.hid b3
      have e0 := (eo_cells wr y).1
      have e1 := (eo_cells wr y).2
      have HE0 := Lib.hid (And.intro e0 e1)
      clear hdr hy b3 e0 e1
      obtain ⟨ys, yn⟩ := y
      cases hv : p (ys, yn)
      · rw [hv] at hkp hE
        simp only [Bool.false_eq_true, if_false] at hE
        have HE := Lib.hid hE
        clear hE hv
        go_wp2_with (go_at_fn fk; refine hkp.mono ?_; rintro e w4 ⟨rfl, b4⟩)
        have bb := hX.out.2.1.trans ((HB3.out.trans (b4.mono HB3.out.size)).mono hX.out.2.1.size)
        exact ⟨⟨j + 1, s, O, by simp, rfl, by omega, by omega, hss, hs0, Lib.hid ⟨own_only hX.out.1 (only_b (S := fun _ => False) (HB3.out.trans (b4.mono HB3.out.size))) (fun _ _ => id), bb, HE.out⟩⟩, by simp [RowKit.intOf]; omega⟩
      · rw [hv] at hkp hE
        simp only [if_true] at hE
        clear hv
        by_cases hsp : 0 < s
        · rw [if_pos hsp] at hE
          have HE := Lib.hid hE
          clear hE
          go_wp2_with (go_at_fn fk; refine hkp.mono ?_; rintro e w4 ⟨rfl, b4⟩)
          have bb := hX.out.2.1.trans ((HB3.out.trans (b4.mono HB3.out.size)).mono hX.out.2.1.size)
          exact ⟨⟨j + 1, s - 1, O, by simp, rfl, by omega, by omega, by omega, by omega, Lib.hid ⟨own_only hX.out.1 (only_b (S := fun _ => False) (HB3.out.trans (b4.mono HB3.out.size))) (fun _ _ => id), bb, HE.out⟩⟩, by simp [RowKit.intOf]; omega⟩
        · rw [if_neg hsp] at hE
          by_cases hm0 : 0 ≤ most
          · by_cases hmo : most ≤ O.length
            · rw [if_pos ⟨hm0, hmo⟩, List.append_nil] at hE
              have HE := Lib.hid hE
              clear hE
              go_wp2_with (go_at_fn fk; refine hkp.mono ?_; rintro e w4 ⟨rfl, b4⟩)
              go_ret
              have bb := hX.out.2.1.trans ((HB3.out.trans (b4.mono HB3.out.size)).mono hX.out.2.1.size)
              exact ⟨_, rfl, by rw [← HE.out]; exact own_only hX.out.1 (only_b (S := fun _ => False) (HB3.out.trans (b4.mono HB3.out.size))) (fun _ _ => id), bb⟩
            · rw [if_neg (fun h => hmo h.2)] at hE
              have HE := Lib.hid hE
              clear hE
              go_wp2_with (first
                | (go_at_fn fk; refine hkp.mono ?_; rintro e w4 ⟨rfl, b4⟩; have f0 := cell_b HE0.out.1 b4; have f1 := cell_b HE0.out.2 b4; have hbb := hX.out.2.1.trans ((HB3.out.trans (b4.mono HB3.out.size)).mono hX.out.2.1.size); have hb34 : Below wr.heap.size wr (w4.alloc (eo (ys, yn))) := (HB3.out.trans (b4.mono HB3.out.size)).trans ((al w4 _).mono (Nat.le_trans HB3.out.size b4.size)); have ho4 := own_only (w' := w4.alloc (eo (ys, yn))) hX.out.1 (only_b (S := fun _ => False) hb34) (fun _ _ => id); have hrv : RdE (w4.alloc (eo (ys, yn))) (some ⟨w4.heap.size, 0, none⟩) 1 1 [(ys, yn)] := One.rd ⟨heap_alloc_new w4 (eo (ys, yn))⟩; have hbs := hbb.size; have HBB := Lib.hid hbb; clear hbb)
                | (at_builtin; refine wpList_app rfl (.tmp 34) (.tmp 36) elE rfl w.heap.size _ O.length _ rfl ho4 (some ⟨w4.heap.size, 0, none⟩) 1 1 (ents [(ys, yn)]) rfl hrv (ents_one _) (by unfold maxLen; omega) (by omega) (by simp; omega) ?_; intro v5 w5 o5 O5 hv5))
              have o6 : OwnE w5 w.heap.size v5 (O ++ [(ys, yn)]) := by
                unfold OwnE
                rw [List.length_append, ents_app]
                exact o5
              have b6 : Below w.heap.size w w5 := O5.after (HBB.out.trans ((al w4 _).mono HBB.out.size)) (Nat.le_refl _) (fun k hk => (hX.out.1.lt k hk).1)
              exact ⟨⟨j + 1, s, O ++ [(ys, yn)], by simp, rfl, by omega, by simp; omega, hss, hs0, Lib.hid ⟨o6, b6, by rw [← HE.out]; simp⟩⟩, by simp [RowKit.intOf]; omega⟩
          · rw [if_neg (fun h => hm0 h.1)] at hE
            have HE := Lib.hid hE
            clear hE
            go_wp2_with (first
              | (go_at_fn fk; refine hkp.mono ?_; rintro e w4 ⟨rfl, b4⟩; have f0 := cell_b HE0.out.1 b4; have f1 := cell_b HE0.out.2 b4; have hbb := hX.out.2.1.trans ((HB3.out.trans (b4.mono HB3.out.size)).mono hX.out.2.1.size); have hb34 : Below wr.heap.size wr (w4.alloc (eo (ys, yn))) := (HB3.out.trans (b4.mono HB3.out.size)).trans ((al w4 _).mono (Nat.le_trans HB3.out.size b4.size)); have ho4 := own_only (w' := w4.alloc (eo (ys, yn))) hX.out.1 (only_b (S := fun _ => False) hb34) (fun _ _ => id); have hrv : RdE (w4.alloc (eo (ys, yn))) (some ⟨w4.heap.size, 0, none⟩) 1 1 [(ys, yn)] := One.rd ⟨heap_alloc_new w4 (eo (ys, yn))⟩; have hbs := hbb.size; have HBB := Lib.hid hbb; clear hbb)
              | (at_builtin; refine wpList_app rfl (.tmp 34) (.tmp 36) elE rfl w.heap.size _ O.length _ rfl ho4 (some ⟨w4.heap.size, 0, none⟩) 1 1 (ents [(ys, yn)]) rfl hrv (ents_one _) (by unfold maxLen; omega) (by omega) (by simp; omega) ?_; intro v5 w5 o5 O5 hv5))
            have o6 : OwnE w5 w.heap.size v5 (O ++ [(ys, yn)]) := by
              unfold OwnE
              rw [List.length_append, ents_app]
              exact o5
            have b6 : Below w.heap.size w w5 := O5.after (HBB.out.trans ((al w4 _).mono HBB.out.size)) (Nat.le_refl _) (fun k hk => (hX.out.1.lt k hk).1)
            exact ⟨⟨j + 1, s, O ++ [(ys, yn)], by simp, rfl, by omega, by simp; omega, hss, hs0, Lib.hid ⟨o6, b6, by rw [← HE.out]; simp⟩⟩, by simp [RowKit.intOf]; omega⟩
    · obtain rfl : j = L.length := by omega
      have hE := hX.out.2.2
      rw [List.drop_length, goP, List.append_nil] at hE
      have HE := Lib.hid hE
      clear hE
      go_wp2_with fail
      go_ret
      exact ⟨_, rfl, by rw [← HE.out]; exact hX.out.1, hX.out.2.1⟩
end Go.Proofs.YtakhcfemakapbaaGreatDoor.RkT
set_option maxRecDepth 100000
set_option linter.unusedSimpArgs false
set_option linter.unusedVariables false
namespace Go.Proofs.YtakhcfemakapbaaGreatDoor.RkU
open Go Go.RowKit Go.Shelf Go.Proofs.YtakhcfemakapbaaGreatDoor.Mem Go.Proofs.YtakhcfemakapbaaGreatDoor.DuA Go.Proofs.YtakhcfemakapbaaGreatDoor.DuM Go.Proofs.YtakhcfemakapbaaGreatDoor.DuN Go.Proofs.YtakhcfemakapbaaGreatDoor.RkA Go.Proofs.YtakhcfemakapbaaGreatDoor.RkC Go.Proofs.YtakhcfemakapbaaGreatDoor.RkB Go.Proofs.YtakhcfemakapbaaGreatDoor.RkE Go.Proofs.YtakhcfemakapbaaGreatDoor.RkF Go.Proofs.YtakhcfemakapbaaGreatDoor.RkH Go.Proofs.YtakhcfemakapbaaGreatDoor.RkI Go.Proofs.YtakhcfemakapbaaGreatDoor.RkL Go.Proofs.YtakhcfemakapbaaGreatDoor.RkM Go.Proofs.YtakhcfemakapbaaGreatDoor.RkO Go.Proofs.YtakhcfemakapbaaGreatDoor.RkP Go.Proofs.YtakhcfemakapbaaGreatDoor.RkS Go.Proofs.YtakhcfemakapbaaGreatDoor.RkT

theorem bx_new (w : World) (b : Bd) : Bxd (w.alloc (bo b)) w.heap.size b := by
  have h := heap_alloc_new w (bo b)
  exact ⟨by unfold World.cell?; simp only [h]; rfl, by unfold World.cell?; simp only [h]; rfl, by unfold World.cell?; simp only [h]; rfl, by unfold World.cell?; simp only [h]; rfl⟩
set_option maxHeartbeats 400000 in
theorem scores_calls (B g m : Nat) (v : Value) (l : List En) (N : Nat) (lo hi : Bd) (rev : Bool) (skip most : Int) (w : World) (h : Rk w B g m v l N) (hN : N ≤ 1000000000) (hs : inI skip) (hm : inI most) :
    Calls Tryz.prog 25 #[.pointer (some ⟨g, 0, none⟩), bV lo, bV hi, .bool rev, .int .i64 skip, .int .i64 most] w fun e w' => ∃ v', e = .returned v' ∧ OwnE w' w.heap.size v' (partL l (inS lo hi) rev skip most) ∧ Below w.heap.size w w' := by
  unfold partL
  have b1 : Below w.heap.size w (w.alloc (bo lo)) := al _ _
  have b2 : Below (w.alloc (bo lo)).heap.size (w.alloc (bo lo)) ((w.alloc (bo lo)).alloc (bo hi)) := al _ _
  have bb := b1.trans (b2.mono b1.size)
  have x1 := (bx_new w lo).below b2
  have x2 := bx_new (w.alloc (bo lo)) hi
  rw [World.size_alloc] at x2
  have hor := order_calls B g m v l N rev _ (h.below bb) hN
  have hwl := way_len l rev
  have hlN := h.len
  obtain ⟨L, hL⟩ : ∃ L, L = wayL l rev := ⟨_, rfl⟩
  rw [← hL] at hor hwl ⊢
  have HX := Lib.hid (And.intro x1 (And.intro x2 bb))
  have hLn : L.length ≤ 1000000000 := by omega
  have HS := Lib.hid (And.intro hs hm)
  clear x1 x2 bb b1 b2 hL h hwl hlN hs hm
  obtain ⟨W2, hW2⟩ : ∃ W2, W2 = (w.alloc (bo lo)).alloc (bo hi) := ⟨_, rfl⟩
  rw [← hW2] at hor HX
  obtain ⟨li, lp, ls, ln⟩ := lo
  obtain ⟨hi_, hp, hs, hn⟩ := hi
  have FIN : ∀ (w3 : World) (v1 : Value), OwnE w3 W2.heap.size v1 L → Below W2.heap.size W2 w3 → ∃ A1 c1, v1 = .slice A1 L.length c1 ∧
      Calls Tryz.prog 50 #[.slice A1 L.length c1, .func (.func 51) #[] #[.pointer (some ⟨w.heap.size, 0, none⟩), .pointer (some ⟨w.heap.size + 1, 0, none⟩)], .int .i64 skip, .int .i64 most] w3 fun e w' => ∃ v', e = .returned v' ∧ OwnE w' w.heap.size v' (cutL (L.filter (inS ⟨li, lp, ls, ln⟩ ⟨hi_, hp, hs, hn⟩)) skip most) ∧ Below w.heap.size w w' := by
    intro w3 v1 o1 b3
    obtain ⟨A1, c1, rfl⟩ := own_form o1
    refine ⟨A1, c1, rfl, ?_⟩
    have hr : RdE w3 A1 L.length c1 L := Rd.of_own o1
    refine (part_calls (inS ⟨li, lp, ls, ln⟩ ⟨hi_, hp, hs, hn⟩) 51 #[.pointer (some ⟨w.heap.size, 0, none⟩), .pointer (some ⟨w.heap.size + 1, 0, none⟩)] (enters_of Tryz.func51 (by kernel_rfl) rfl) A1 L.length c1 L skip most w3 hr hLn HS.out.1 HS.out.2 (fun W x hb => by have hq := inS_calls x _ _ _ _ W ((HX.out.1.below b3).below hb) ((HX.out.2.1.below b3).below hb); exact hq)).mono ?_
    rintro e w4 ⟨v4, rfl, o4, b4⟩
    have hsz := HX.out.2.2.size
    have hsz3 := b3.size
    refine ⟨v4, rfl, ⟨o4.1, o4.2.imp id (fun ⟨g, c, cur, y1, y2, y3⟩ => ⟨g, c, cur, y1, by omega, y3⟩)⟩, HX.out.2.2.trans ((b3.trans (b4.mono hsz3)).mono hsz)⟩
  have HF := Lib.hid FIN
  clear FIN
  go_enter Tryz.func25, Tryz.ntmps25
  go_wp2_with fail
  rw [← hW2]
  refine hor.mono ?_
  clear hor
  rintro e w3 ⟨v1, rfl, o1, b3⟩
  obtain ⟨A1, c1, rfl, hp⟩ := HF.out w3 v1 o1 b3
  clear o1 b3 hW2
  go_wp2_with fail
  refine hp.mono ?_
  clear hp
  rintro e w4 ⟨v4, rfl, o4, b4⟩
  go_wp2_with fail
  go_ret
  exact ⟨_, rfl, o4, b4⟩
set_option maxHeartbeats 400000 in
theorem names_calls (B g m : Nat) (v : Value) (l : List En) (N : Nat) (lo hi : Bd) (rev : Bool) (skip most : Int) (w : World) (h : Rk w B g m v l N) (hN : N ≤ 1000000000) (hs : inI skip) (hm : inI most) :
    Calls Tryz.prog 37 #[.pointer (some ⟨g, 0, none⟩), bV lo, bV hi, .bool rev, .int .i64 skip, .int .i64 most] w fun e w' => ∃ v', e = .returned v' ∧ OwnE w' w.heap.size v' (partL l (inN lo hi) rev skip most) ∧ Below w.heap.size w w' := by
  unfold partL
  have b1 : Below w.heap.size w (w.alloc (bo lo)) := al _ _
  have b2 : Below (w.alloc (bo lo)).heap.size (w.alloc (bo lo)) ((w.alloc (bo lo)).alloc (bo hi)) := al _ _
  have bb := b1.trans (b2.mono b1.size)
  have x1 := (bx_new w lo).below b2
  have x2 := bx_new (w.alloc (bo lo)) hi
  rw [World.size_alloc] at x2
  have hor := order_calls B g m v l N rev _ (h.below bb) hN
  have hwl := way_len l rev
  have hlN := h.len
  obtain ⟨L, hL⟩ : ∃ L, L = wayL l rev := ⟨_, rfl⟩
  rw [← hL] at hor hwl ⊢
  have HX := Lib.hid (And.intro x1 (And.intro x2 bb))
  have hLn : L.length ≤ 1000000000 := by omega
  have HS := Lib.hid (And.intro hs hm)
  clear x1 x2 bb b1 b2 hL h hwl hlN hs hm
  obtain ⟨W2, hW2⟩ : ∃ W2, W2 = (w.alloc (bo lo)).alloc (bo hi) := ⟨_, rfl⟩
  rw [← hW2] at hor HX
  obtain ⟨li, lp, ls, ln⟩ := lo
  obtain ⟨hi_, hp, hs, hn⟩ := hi
  have FIN : ∀ (w3 : World) (v1 : Value), OwnE w3 W2.heap.size v1 L → Below W2.heap.size W2 w3 → ∃ A1 c1, v1 = .slice A1 L.length c1 ∧
      Calls Tryz.prog 50 #[.slice A1 L.length c1, .func (.func 63) #[] #[.pointer (some ⟨w.heap.size, 0, none⟩), .pointer (some ⟨w.heap.size + 1, 0, none⟩)], .int .i64 skip, .int .i64 most] w3 fun e w' => ∃ v', e = .returned v' ∧ OwnE w' w.heap.size v' (cutL (L.filter (inN ⟨li, lp, ls, ln⟩ ⟨hi_, hp, hs, hn⟩)) skip most) ∧ Below w.heap.size w w' := by
    intro w3 v1 o1 b3
    obtain ⟨A1, c1, rfl⟩ := own_form o1
    refine ⟨A1, c1, rfl, ?_⟩
    have hr : RdE w3 A1 L.length c1 L := Rd.of_own o1
    refine (part_calls (inN ⟨li, lp, ls, ln⟩ ⟨hi_, hp, hs, hn⟩) 63 #[.pointer (some ⟨w.heap.size, 0, none⟩), .pointer (some ⟨w.heap.size + 1, 0, none⟩)] (enters_of Tryz.func63 (by kernel_rfl) rfl) A1 L.length c1 L skip most w3 hr hLn HS.out.1 HS.out.2 (fun W x hb => by have hq := inN_calls x _ _ _ _ W ((HX.out.1.below b3).below hb) ((HX.out.2.1.below b3).below hb); exact hq)).mono ?_
    rintro e w4 ⟨v4, rfl, o4, b4⟩
    have hsz := HX.out.2.2.size
    have hsz3 := b3.size
    refine ⟨v4, rfl, ⟨o4.1, o4.2.imp id (fun ⟨g, c, cur, y1, y2, y3⟩ => ⟨g, c, cur, y1, by omega, y3⟩)⟩, HX.out.2.2.trans ((b3.trans (b4.mono hsz3)).mono hsz)⟩
  have HF := Lib.hid FIN
  clear FIN
  go_enter Tryz.func37, Tryz.ntmps37
  go_wp2_with fail
  rw [← hW2]
  refine hor.mono ?_
  clear hor
  rintro e w3 ⟨v1, rfl, o1, b3⟩
  obtain ⟨A1, c1, rfl, hp⟩ := HF.out w3 v1 o1 b3
  clear o1 b3 hW2
  go_wp2_with fail
  refine hp.mono ?_
  clear hp
  rintro e w4 ⟨v4, rfl, o4, b4⟩
  go_wp2_with fail
  go_ret
  exact ⟨_, rfl, o4, b4⟩
end Go.Proofs.YtakhcfemakapbaaGreatDoor.RkU
set_option maxRecDepth 100000
set_option linter.unusedSimpArgs false
set_option linter.unusedVariables false
namespace Go.Proofs.YtakhcfemakapbaaGreatDoor.RjC
open Go Go.RowKit Go.Shelf Go.Sort Go.Proofs.YtakhcfemakapbaaGreatDoor.Mem Go.Proofs.YtakhcfemakapbaaGreatDoor.DuA Go.Proofs.YtakhcfemakapbaaGreatDoor.DuM Go.Proofs.YtakhcfemakapbaaGreatDoor.DuN Go.Proofs.YtakhcfemakapbaaGreatDoor.RkA Go.Proofs.YtakhcfemakapbaaGreatDoor.RkC Go.Proofs.YtakhcfemakapbaaGreatDoor.RkB Go.Proofs.YtakhcfemakapbaaGreatDoor.RkE Go.Proofs.YtakhcfemakapbaaGreatDoor.RkI Go.Proofs.YtakhcfemakapbaaGreatDoor.RkS

theorem orderR_calls (a b : Int) (w : World) : Calls Tryz.prog 68 #[.int .i64 a, .int .i64 b] w fun e w' => e = .returned (.int .i64 (cmpI a b)) ∧ w' = w := by
  unfold cmpI
  by_cases h1 : a < b
  · rw [if_pos h1]
    go_enter Tryz.func68, Tryz.ntmps68
    go_wp2_with fail
    go_ret
    exact ⟨rfl, rfl⟩
  · rw [if_neg h1]
    by_cases h2 : b < a
    · rw [if_pos h2]
      go_enter Tryz.func68, Tryz.ntmps68
      go_wp2_with fail
      go_ret
      exact ⟨rfl, rfl⟩
    · rw [if_neg h2]
      go_enter Tryz.func68, Tryz.ntmps68
      go_wp2_with fail
      go_ret
      exact ⟨rfl, rfl⟩
theorem textsR_calls (a b : ByteArray) (w : World) : Calls Tryz.prog 70 #[.string a, .string b] w fun e w' => e = .returned (.int .i64 (cmpT a b)) ∧ w' = w := by
  unfold cmpT
  have hg := gtr_is a b
  cases h1 : ltS a b
  · rw [if_neg (by simp)]
    have h1' : Op.bytesLess a.toList b.toList = false := h1
    cases h2 : ltS b a
    · rw [if_neg (by simp)]
      rw [h2, h1', Bool.false_or] at hg
      clear h1 h2
      go_enter Tryz.func70, Tryz.ntmps70
      go_wp2_with fail
      go_ret
      exact ⟨rfl, rfl⟩
    · rw [if_pos rfl]
      rw [h2, h1', Bool.false_or] at hg
      clear h1 h2
      go_enter Tryz.func70, Tryz.ntmps70
      go_wp2_with fail
      go_ret
      exact ⟨rfl, rfl⟩
  · rw [if_pos rfl]
    have h1' : Op.bytesLess a.toList b.toList = true := h1
    clear h1 hg
    go_enter Tryz.func70, Tryz.ntmps70
    go_wp2_with fail
    go_ret
    exact ⟨rfl, rfl⟩
end Go.Proofs.YtakhcfemakapbaaGreatDoor.RjC
