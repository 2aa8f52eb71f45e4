/-
  awake; the laws TableFinds and TableChecks. Conditions: as stated.
-/
import Derived.Test.YtiffdkagmnpjiaaTbR
set_option maxRecDepth 100000
set_option linter.unusedSimpArgs false
set_option linter.unusedVariables false
namespace Go.Proofs.Ytiffdkagmnpjiaa.TbU
open Go.RowKit Go.Proofs.Ytiffdkagmnpjiaa.Mem Go.Proofs.Ytiffdkagmnpjiaa.TbA Go.Proofs.Ytiffdkagmnpjiaa.TbB Go.Proofs.Ytiffdkagmnpjiaa.Bytes Go.Proofs.Ytiffdkagmnpjiaa.TbI Go.Proofs.Ytiffdkagmnpjiaa.TbJ Go.Proofs.Ytiffdkagmnpjiaa.TbL Go.Proofs.Ytiffdkagmnpjiaa.TbN Go.Proofs.Ytiffdkagmnpjiaa.TbO Go.Proofs.Ytiffdkagmnpjiaa.TbP Go.Proofs.Ytiffdkagmnpjiaa.TbQ Go.Proofs.Ytiffdkagmnpjiaa.TbR

theorem find_GET : findD ⟨#[71, 69, 84]⟩ = some ⟨⟨#[103, 101, 116]⟩, 2, false, false, 1, 1, 1⟩ := by kernel_rfl
theorem check_Get : checkD [⟨#[71, 101, 116]⟩] = ⟨#[69, 82, 82, 32, 119, 114, 111, 110, 103, 32, 110, 117, 109, 98, 101, 114, 32, 111, 102, 32, 97, 114, 103, 117, 109, 101, 110, 116, 115, 58, 32, 103, 101, 116]⟩ := by kernel_rfl
set_option maxHeartbeats 2000000 in
theorem awake_calls (w : World) : Calls Try.prog 12 #[] w fun e w' => e = .returned (.bool true) ∧ Below w.heap.size w w' := by
  have hfind : Hid (∀ W, Calls Try.prog 8 #[.string ⟨#[71, 69, 84]⟩] W fun e w' => e = .returned (.tuple #[.agg #[.string ⟨#[103, 101, 116]⟩, .int .i64 2, .bool false, .bool false, .int .i64 1, .int .i64 1, .int .i64 1], .bool true]) ∧ Below W.heap.size W w') := fun W => by have := find_calls ⟨#[71, 69, 84]⟩ W (by decide); rw [find_GET] at this; exact this
  have hchk : Hid (∀ (W : World) (b : Nat), b = W.heap.size → Calls Try.prog 15 #[.slice (some ⟨b, 0, none⟩) 1 1] (W.alloc (.cells #[.string ⟨#[71, 101, 116]⟩] 9)) fun e w' => e = .returned (.string ⟨#[69, 82, 82, 32, 119, 114, 111, 110, 103, 32, 110, 117, 109, 98, 101, 114, 32, 111, 102, 32, 97, 114, 103, 117, 109, 101, 110, 116, 115, 58, 32, 103, 101, 116]⟩) ∧ Below (W.alloc (.cells #[.string ⟨#[71, 101, 116]⟩] 9)).heap.size (W.alloc (.cells #[.string ⟨#[71, 101, 116]⟩] 9)) w') := fun W b hb => by
    subst hb
    have := check_calls (some ⟨W.heap.size, 0, none⟩) 1 1 [⟨#[71, 101, 116]⟩] (W.alloc (.cells #[.string ⟨#[71, 101, 116]⟩] 9)) ⟨by simp [strs], Nat.le_refl _, by unfold maxLen; omega, fun j y hy => ⟨_, rfl, cell_one_new W _ _ j y hy⟩⟩ ⟨by decide, fun s hs => by rw [List.mem_singleton.1 hs]; decide⟩
    rw [check_Get] at this; exact this
  go_enter Try.func12, Try.ntmps12
  go_wp2_with fail
  refine (hfind.out _).mono ?_
  rintro e w1 ⟨rfl, b1⟩
  clear hfind
  have B1 := b1.alloc b1.size (.cells #[.string ⟨#[103, 101, 116]⟩, .int .i64 2, .bool false, .bool false, .int .i64 1, .int .i64 1, .int .i64 1] 23)
  have B2 := B1.alloc B1.size (.cells #[.string ⟨#[71, 101, 116]⟩] 9)
  go_wp2_with fail
  refine (hchk.out _ _ (by simp)).mono ?_
  rintro e w2 ⟨rfl, b2⟩
  clear hchk
  go_wp2_with fail
  go_ret
  exact ⟨rfl, B2.trans (b2.mono B2.size)⟩
set_option maxHeartbeats 2000000 in
theorem finds_law (name : ByteArray) (w : World) (hs : name.size ≤ 281474976710656) : Calls Try.prog 3 #[.string name] w fun e w' => e = .returned (.bool true) ∧ Below w.heap.size w w' := by
  obtain ⟨xn, xa, xw, xc, xf, xl, xs, ok, hx⟩ : ∃ xn xa xw xc xf xl xs ok, findV (findD name) = .tuple #[.agg #[.string xn, .int .i64 xa, .bool xw, .bool xc, .int .i64 xf, .int .i64 xl, .int .i64 xs], .bool ok] := by
    rcases findD name with _ | ⟨xn, xa, xw, xc, xf, xl, xs⟩
    · exact ⟨⟨#[]⟩, 0, false, false, 0, 0, 0, false, rfl⟩
    · exact ⟨xn, xa, xw, xc, xf, xl, xs, true, rfl⟩
  have hf1 : Hid (∀ W, Calls Try.prog 8 #[.string name] W fun e w' => e = .returned (.tuple #[.agg #[.string xn, .int .i64 xa, .bool xw, .bool xc, .int .i64 xf, .int .i64 xl, .int .i64 xs], .bool ok]) ∧ Below W.heap.size W w') := fun W => by have := find_calls name W hs; rw [hx] at this; exact this
  have hf2 : Hid (∀ W, Calls Try.prog 9 #[.string name] W fun e w' => e = .returned (.tuple #[.agg #[.string xn, .int .i64 xa, .bool xw, .bool xc, .int .i64 xf, .int .i64 xl, .int .i64 xs], .bool ok]) ∧ Below W.heap.size W w') := fun W => by have := findR_calls name W hs; rw [hx] at this; exact this
  obtain ⟨L, hL⟩ : ∃ L : ByteArray, L = ⟨(Bytes.lowL name.data.toList).toArray⟩ := ⟨_, rfl⟩
  have hl1 : Hid (∀ W, Calls Try.prog 10 #[.string name] W fun e w' => e = .returned (.string L) ∧ Below W.heap.size W w') := fun W => by rw [hL]; exact TbH.lower_calls name W hs
  have hl2 : Hid (∀ W, Calls Try.prog 11 #[.string name] W fun e w' => e = .returned (.string L) ∧ Below W.heap.size W w') := fun W => by rw [hL]; exact TbH.lowerR_calls name W hs
  clear hx hL
  go_enter Try.func3, Try.ntmps3
  go_wp2_with fail
  refine (hf1.out _).mono ?_
  rintro e w1 ⟨rfl, b1⟩
  clear hf1
  go_wp2_with fail
  refine (hf2.out _).mono ?_
  rintro e w2 ⟨rfl, b2⟩
  clear hf2
  have hz1 : (w1.alloc (.cells #[.string xn, .int .i64 xa, .bool xw, .bool xc, .int .i64 xf, .int .i64 xl, .int .i64 xs] 23)).heap[w1.heap.size]? = some (.cells #[.string xn, .int .i64 xa, .bool xw, .bool xc, .int .i64 xf, .int .i64 xl, .int .i64 xs] 23 (0, 0)) := heap_alloc_new w1 _
  have hz2 : w2.heap[w1.heap.size]? = some (.cells #[.string xn, .int .i64 xa, .bool xw, .bool xc, .int .i64 xf, .int .i64 xl, .int .i64 xs] 23 (0, 0)) := by rw [b2.block _ (by simp)]; exact hz1
  have B2 : Below w.heap.size w w2 := (b1.alloc b1.size _).trans (b2.mono (b1.alloc b1.size _).size)
  have hlt : w1.heap.size < w2.heap.size := (Array.getElem?_eq_some_iff.1 hz2).1
  have B3 := B2.alloc B2.size (.cells #[.string xn, .int .i64 xa, .bool xw, .bool xc, .int .i64 xf, .int .i64 xl, .int .i64 xs] 23)
  have z0 : w2.cell? ⟨w1.heap.size, 0, none⟩ = some (.string xn) := by simp [World.cell?, hz2]
  have z1 : w2.cell? ⟨w1.heap.size, 1, none⟩ = some (.int .i64 xa) := by simp [World.cell?, hz2]
  have z2 : w2.cell? ⟨w1.heap.size, 2, none⟩ = some (.bool xw) := by simp [World.cell?, hz2]
  have z3 : w2.cell? ⟨w1.heap.size, 3, none⟩ = some (.bool xc) := by simp [World.cell?, hz2]
  have z4 : w2.cell? ⟨w1.heap.size, 4, none⟩ = some (.int .i64 xf) := by simp [World.cell?, hz2]
  have z5 : w2.cell? ⟨w1.heap.size, 5, none⟩ = some (.int .i64 xl) := by simp [World.cell?, hz2]
  have z6 : w2.cell? ⟨w1.heap.size, 6, none⟩ = some (.int .i64 xs) := by simp [World.cell?, hz2]
  have HB := Lib.hid B3
  clear b1 b2 hz1 hz2 B2 B3
  go_wp2_with fail
  refine (hl1.out _).mono ?_
  rintro e w3 ⟨rfl, b3⟩
  go_wp2_with fail
  refine (hl2.out _).mono ?_
  rintro e w4 ⟨rfl, b4⟩
  go_wp2_with fail
  refine (awake_calls _).mono ?_
  rintro e w5 ⟨rfl, b5⟩
  have B4 := HB.out.trans (b3.mono HB.out.size)
  have B5 := B4.trans (b4.mono B4.size)
  go_wp2_with fail
  go_ret
  exact ⟨rfl, B5.trans (b5.mono B5.size)⟩
set_option maxHeartbeats 2000000 in
theorem checks_law (A : Option Addr) (n c : Nat) (l : List ByteArray) (w : World) (hr : RdS w A n c l) (hs : Small l) : Calls Try.prog 5 #[.slice A n c] w fun e w' => e = .returned (.bool true) ∧ Below w.heap.size w w' := by
  obtain ⟨C, hC⟩ : ∃ C, C = checkD l := ⟨_, rfl⟩
  have hf1 : Hid (∀ W, RdS W A n c l → Calls Try.prog 15 #[.slice A n c] W fun e w' => e = .returned (.string C) ∧ Below W.heap.size W w') := fun W h => by rw [hC]; exact check_calls A n c l W h hs
  have hf2 : Hid (∀ W, RdS W A n c l → Calls Try.prog 16 #[.slice A n c] W fun e w' => e = .returned (.string C) ∧ Below W.heap.size W w') := fun W h => by rw [hC]; exact checkR_calls A n c l W h hs
  have Hr := Lib.hid hr
  clear hC hs hr
  go_enter Try.func5, Try.ntmps5
  go_wp2_with fail
  refine (hf1.out _ Hr.out).mono ?_
  rintro e w1 ⟨rfl, b1⟩
  go_wp2_with fail
  refine (hf2.out _ (Hr.out.below b1)).mono ?_
  rintro e w2 ⟨rfl, b2⟩
  go_wp2_with fail
  refine (awake_calls _).mono ?_
  rintro e w3 ⟨rfl, b3⟩
  have B2 := b1.trans (b2.mono b1.size)
  go_wp2_with fail
  go_ret
  exact ⟨rfl, B2.trans (b3.mono B2.size)⟩
end Go.Proofs.Ytiffdkagmnpjiaa.TbU
