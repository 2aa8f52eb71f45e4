/-
  The law's example. Conditions: as stated.
-/
import Derived.Test.YtabgngdimbflkaaDuV
set_option maxRecDepth 100000
set_option linter.unusedSimpArgs false
set_option linter.unusedVariables false
namespace Go.Proofs.Ytabgngdimbflkaa.DuW
open Go.RowKit Go.Shelf Go.Proofs.Ytabgngdimbflkaa.Mem Go.Proofs.Ytabgngdimbflkaa.DuA Go.Proofs.Ytabgngdimbflkaa.DuM Go.Proofs.Ytabgngdimbflkaa.DuN Go.Proofs.Ytabgngdimbflkaa.DuB Go.Proofs.Ytabgngdimbflkaa.DuO Go.Proofs.Ytabgngdimbflkaa.DsC Go.Proofs.Ytabgngdimbflkaa.DsH Go.Proofs.Ytabgngdimbflkaa.DsI Go.Proofs.Ytabgngdimbflkaa.DsJ Go.Proofs.Ytabgngdimbflkaa.DsK Go.Proofs.Ytabgngdimbflkaa.DsL Go.Proofs.Ytabgngdimbflkaa.DuR Go.Proofs.Ytabgngdimbflkaa.DuS Go.Proofs.Ytabgngdimbflkaa.DuT Go.Proofs.Ytabgngdimbflkaa.DuU Go.Proofs.Ytabgngdimbflkaa.DuV

theorem okk_1 (b : UInt8) : okk (⟨#[b]⟩ : ByteArray) := by unfold okk maxLen; show (1 : Nat) ≤ _; omega
theorem rd_2 (w : World) (a b : ByteArray) : RdKs (w.alloc (.cells #[.string a, .string b] 9)) (some ⟨w.heap.size, 0, none⟩) 2 2 [a, b] := by
  refine ⟨rfl, Nat.le_refl _, by unfold maxLen; omega, fun j x hj => ⟨_, rfl, ?_⟩⟩
  rw [add_mk]
  have h := heap_alloc_new w (.cells #[.string a, .string b] 9)
  unfold World.cell?
  simp only [h]
  match j, hj with
  | 0, hj => exact hj
  | 1, hj => exact hj
  | j + 2, hj => simp [keysV] at hj
theorem turn_bel {B g m N N' : Nat} {v : Value} {l l' : List (Int × ByteArray)} {w w' : World} (h : Ix w B g m v l N) (hB : B ≤ w.heap.size) (t : Turn B g m v l' N' w w') : ∃ v', Ix w' B g m v' l' N' ∧ Below B w w' := by
  obtain ⟨v', h', o, _⟩ := t
  exact ⟨v', h', o.below hB (fun k hk => (h.lt k hk).1)⟩

set_option maxHeartbeats 4000000 in
theorem awake_calls (w : World) : Calls Try.prog 9 #[] w fun e w' => e = .returned (.bool true) ∧ Below w.heap.size w w' := by
  have hs5 : setE 5 = 0 := by decide
  have hs2 : setE 2 = 0 := by decide
  go_enter Try.func9, Try.ntmps9
  go_wp2_with fail
  refine (new_calls w).mono ?_
  rintro e w1 ⟨g, m, rfl, h1, b1⟩
  have B1 := b1.size
  have hc1 := set_calls w.heap.size g m _ _ _ bB 5 w1 h1 (okk_1 _) B1 (by omega)
  rw [e_b, hs5] at hc1
  go_wp2_with fail
  refine hc1.mono ?_
  rintro e w2 ⟨rfl, T⟩
  obtain ⟨v2, h2, b2⟩ := turn_bel h1 B1 T
  have B2 := Nat.le_trans B1 b2.size
  have hc2 := set_calls w.heap.size g m _ _ _ bA 5 w2 h2 (okk_1 _) B2 (by omega)
  rw [e_a, hs5] at hc2
  clear hc1 T
  go_wp2_with fail
  refine hc2.mono ?_
  rintro e w3 ⟨rfl, T⟩
  obtain ⟨v3, h3, b3⟩ := turn_bel h2 B2 T
  have B3 := Nat.le_trans B2 b3.size
  have hc3 := set_calls w.heap.size g m _ _ _ bC 2 w3 h3 (okk_1 _) B3 (by omega)
  rw [e_c, hs2] at hc3
  clear hc2 T
  go_wp2_with fail
  refine hc3.mono ?_
  rintro e w4 ⟨rfl, T⟩
  obtain ⟨v4, h4, b4⟩ := turn_bel h3 B3 T
  have B4 := Nat.le_trans B3 b4.size
  have hnx := next_calls w.heap.size g m _ _ _ w4 h4 (by omega)
  have e3 : nextV [(2, bC), (5, bA), (5, bB)] = .tuple #[.string bC, .int .i64 2, .bool true] := rfl
  rw [e3] at hnx
  clear hc3 T e3
  go_wp2_with fail
  refine hnx.mono ?_
  rintro e w5 ⟨rfl, nd, rfl⟩
  have h5 := h4.drawn nd
  have hpk := peek_calls w.heap.size g m _ _ _ 5 2 _ h5 (by omega)
  rw [e_p] at hpk
  clear hnx
  go_wp2_with fail
  refine hpk.mono ?_
  rintro e w6 ⟨v6, rfl, o6, b6⟩
  have o6' : w6.ownsRow (w4.drewN nd).heap.size 9 1 v6 2 (keysV [bC, bA]) := o6
  obtain ⟨A6, c6, rfl⟩ := own_form o6'
  have r6 : RdKs w6 A6 2 c6 [bC, bA] := Rd.of_own o6'
  have h6 := h5.below b6
  have b7 := al w6 (.cells #[.string bC, .string bA] 9)
  have hT := texts_calls A6 2 c6 [bC, bA] (some ⟨w6.heap.size, 0, none⟩) 2 2 [bC, bA] _ (r6.below b7) (rd_2 w6 bC bA)
  rw [decide_eq_true (rfl : [bC, bA] = [bC, bA])] at hT
  have h7 := h6.below b7
  clear hpk o6 o6'
  go_wp2_with fail
  refine hT.mono ?_
  rintro e w8 ⟨rfl, nd8, rfl⟩
  have h8 := h7.drawn nd8
  have hln := len_calls w.heap.size g m _ _ _ _ h8
  go_wp2_with fail
  refine hln.mono ?_
  rintro e w9 ⟨rfl, rfl⟩
  go_wp2_with fail
  go_ret
  refine ⟨rfl, ?_⟩
  have z := ((b1.trans (b2.trans (b3.trans b4))))
  exact below_drawn_ ((below_drawn_ z nd).trans ((b6.trans (b7.mono b6.size)).mono (below_drawn_ z nd).size)) nd8
end Go.Proofs.Ytabgngdimbflkaa.DuW
