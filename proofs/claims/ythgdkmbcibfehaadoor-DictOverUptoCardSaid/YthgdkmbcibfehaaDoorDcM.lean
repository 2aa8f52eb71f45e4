/-
  What must come whatever the input is. Conditions: as stated.
-/
import Derived.Test.YthgdkmbcibfehaaDoorDcL
set_option maxRecDepth 100000
set_option linter.unusedSimpArgs false
set_option linter.unusedVariables false
namespace Go.Proofs.YthgdkmbcibfehaaDoor.DcM
open Go.RowKit Go.Proofs.YthgdkmbcibfehaaDoor.Mem Go.Proofs.YthgdkmbcibfehaaDoor.NumA Go.Proofs.YthgdkmbcibfehaaDoor.NumB Go.Proofs.YthgdkmbcibfehaaDoor.NumE Go.Proofs.YthgdkmbcibfehaaDoor.DcA Go.Proofs.YthgdkmbcibfehaaDoor.DcB Go.Proofs.YthgdkmbcibfehaaDoor.DcC Go.Proofs.YthgdkmbcibfehaaDoor.DcD Go.Proofs.YthgdkmbcibfehaaDoor.DcE Go.Proofs.YthgdkmbcibfehaaDoor.DcF Go.Proofs.YthgdkmbcibfehaaDoor.DcG Go.Proofs.YthgdkmbcibfehaaDoor.DcI Go.Proofs.YthgdkmbcibfehaaDoor.DcJ Go.Proofs.YthgdkmbcibfehaaDoor.DcK Go.Proofs.YthgdkmbcibfehaaDoor.DcL

def ch (n : UInt8) : ByteArray := ⟨#[n]⟩
def l1 : List Fld := [(ch 97, ch 49), (ch 98, ch 50)]
def l2 : List Fld := [(ch 97, ch 53), (ch 98, ch 50)]
def l3 : List Fld := [(ch 97, ch 53), (ch 98, ch 50), (ch 99, ch 120)]
def l4 : List Fld := [(ch 97, ch 53), (ch 98, ch 50), (ch 99, ch 121)]
def l5 : List Fld := [(ch 97, ch 53), (ch 99, ch 121)]
def l6 : List Fld := [(ch 99, ch 121)]
def l0 : List Fld := [(ch 97, ⟨#[]⟩), (ch 97, ⟨#[]⟩)]
theorem v1 : incV l1 (ch 97) 4 = .tuple #[.int .i64 5, .int .i64 0] := by kernel_rfl
theorem e1 : incL l1 (ch 97) 4 = l2 := by kernel_rfl
theorem e2 : setL l2 (ch 99) (ch 120) = l3 := by kernel_rfl
theorem e3 : setL l3 (ch 99) (ch 121) = l4 := by kernel_rfl
theorem e4 : dropL l4 (ch 98) = l5 := by kernel_rfl
theorem e5 : dropL l5 (ch 98) = l5 := by kernel_rfl
theorem e6 : aftL l5 (ch 97) 9 = l6 := by kernel_rfl
theorem rl1 : Ris l1 := by unfold Ris l1; simp; kernel_rfl
theorem rl0 : ¬ Ris l0 := by unfold Ris l0; simp; kernel_rfl
theorem rd_four (w : World) (a b c d : ByteArray) (T : TypeId) : RdF (w.alloc (.cells #[.string a, .string b, .string c, .string d] T)) (some ⟨w.heap.size, 0, none⟩) 2 2 [(a, b), (c, d)] :=
  ⟨rfl, Nat.le_refl _, by unfold maxLen; omega, fun j x hx => ⟨_, rfl, by
    have h := heap_alloc_new w (.cells #[.string a, .string b, .string c, .string d] T)
    rw [add_mk, Nat.zero_add]
    match j, hx with
    | 0, hx => simp [flds] at hx; subst hx; simp only [World.cell?]; rw [h]; rfl
    | 1, hx => simp [flds] at hx; subst hx; simp only [World.cell?]; rw [h]; rfl
    | 2, hx => simp [flds] at hx; subst hx; simp only [World.cell?]; rw [h]; rfl
    | 3, hx => simp [flds] at hx; subst hx; simp only [World.cell?]; rw [h]; rfl⟩⟩
theorem ok_small {s : ByteArray} (h : s.size ≤ 100) : okk s := by unfold okk maxLen; omega
theorem same_true (A A' : Option Addr) (n c n' c' : Nat) (l k : List Fld) (w : World) (ha : RdF w A n c l) (hb : RdF w A' n' c' k) (hn : n ≤ 1000000000) (hn' : n' ≤ 1000000000) (he : l = k) :
    Calls Tryd.prog 17 #[.slice A n c, .slice A' n' c'] w fun e w' => e = .returned (.bool true) ∧ ∃ nd, w' = w.drewN nd :=
  (same_calls A A' n c n' c' l k w ha hb hn hn').mono fun e w' h => by
    obtain ⟨⟨b, rfl, hb⟩, h2⟩ := h
    rw [hb.2 he]
    exact ⟨rfl, h2⟩
theorem of_ok (A : Option Addr) (n c : Nat) (l : List Fld) (w : World) (hr : RdF w A n c l) (hok : ∀ f ∈ l, okk f.1 ∧ okk f.2) (hn : n ≤ 100000000) (hl : Ris l) :
    Calls Tryd.prog 8 #[.slice A n c] w fun e w' => ∃ g m, e = .returned (.tuple #[.pointer (some ⟨g, 0, none⟩), .int .i64 0]) ∧ Dc w' w.heap.size g m l n ∧ Below w.heap.size w w' :=
  (of_calls A n c l w hr hok hn).mono fun e w' h => by
    rw [rdf_len hr] at h
    rcases h with ⟨b, ⟨_, g, m, rfl, d⟩ | ⟨h, _⟩⟩
    · exact ⟨g, m, rfl, d, b⟩
    · exact absurd hl h
theorem of_no (A : Option Addr) (n c : Nat) (l : List Fld) (w : World) (hr : RdF w A n c l) (hok : ∀ f ∈ l, okk f.1 ∧ okk f.2) (hn : n ≤ 100000000) (hl : ¬ Ris l) :
    Calls Tryd.prog 8 #[.slice A n c] w fun e w' => e = .returned (.tuple #[.pointer none, .int .i64 100]) ∧ Below w.heap.size w w' :=
  (of_calls A n c l w hr hok hn).mono fun e w' h => by
    rcases h with ⟨b, ⟨h, _⟩ | ⟨_, rfl⟩⟩
    · exact absurd h hl
    · exact ⟨rfl, b⟩
theorem dc_keep {w w' : World} {B g m N : Nat} {l : List Fld} (h : Dc w B g m l N) {w0 : World} (hb : Below w0.heap.size w0 w) (hB : w0.heap.size ≤ B) (ho : Only (fun b => b = m) w w') : Below w0.heap.size w0 w' :=
  ho.after hb (Nat.le_refl _) (fun b hb => by subst hb; exact Nat.le_trans hB h.mB)
set_option maxHeartbeats 8000000 in
theorem sure_calls (w : World) (hL : Laid w) :
    Calls Tryd.prog 10 #[] w fun e w' => e = .returned (.bool true) ∧ Below w.heap.size w w' := by
  have t53 : (ch 53).toList = [53] := by rw [ByteArray.toList_eq]; rfl
  have hof := of_ok _ 2 2 l1 _ (rd_four w (ch 97) (ch 49) (ch 98) (ch 50) 52) (fun f hf => by
    simp [l1] at hf; rcases hf with rfl | rfl <;> exact ⟨ok_small (by decide), ok_small (by decide)⟩) (by decide) rl1
  have hof0 := Lib.hid (fun w1 : World => of_no _ 2 2 l0 _ (rd_four w1 (ch 97) ⟨#[]⟩ (ch 97) ⟨#[]⟩ 52) (fun f hf => by
    simp [l0] at hf; subst hf; exact ⟨ok_small (by decide), ok_small (by decide)⟩) (by decide) rl0)
  have b0 : Below w.heap.size w (w.alloc (.cells #[.string (ch 97), .string (ch 49), .string (ch 98), .string (ch 50)] 52)) := (Below.refl _ _).alloc (Nat.le_refl _) _
  obtain ⟨W0, hW0⟩ : ∃ W0, W0 = w.alloc (.cells #[.string (ch 97), .string (ch 49), .string (ch 98), .string (ch 50)] 52) := ⟨_, rfl⟩
  have HW0 := Lib.hid hW0
  rw [← hW0] at hof b0
  have H0 := Lib.hid b0
  have HL := Lib.hid hL
  clear hL hW0 b0
  go_enter Tryd.func10, Tryd.ntmps10
  go_wp2_with (go_at_call 8; refine Calls.mono (by have h := hof; rw [HW0.out] at h; exact h) ?_; rw [← HW0.out]; rintro e w1 ⟨g, m, rfl, d1, b1⟩; clear hof)
  have D1 : Dc w1 w.heap.size g m l1 2 := { d1 with gB := Nat.le_trans H0.out.size d1.gB, mB := Nat.le_trans H0.out.size d1.mB }
  have B1 : Below w.heap.size w w1 := H0.out.trans (b1.mono H0.out.size)
  have b1' : Below w1.heap.size w1 (w1.alloc (.cells #[.string (ch 97), .string ⟨#[]⟩, .string (ch 97), .string ⟨#[]⟩] 52)) := (Below.refl _ _).alloc (Nat.le_refl _) _
  refine Calls.mono (hof0.out w1) ?_
  rintro e w2 ⟨rfl, b2⟩
  have b2' := below_seq b1' b2
  have D2 := D1.below b2'
  have B2 := below_seq B1 b2'
  go_wp2_with fail
  have L2 := HL.out.below B2
  have hinc := incr_calls w.heap.size g m l1 2 (ch 97) 4 w2 D2 L2 (ok_small (by decide)) (by unfold inR; omega) (fun s hs => by
    have : s = ch 49 := by
      have h := hs.symm.trans (show getL l1 (ch 97) = some (ch 49) by kernel_rfl)
      injection h
    subst this; decide) (by decide)
  rw [v1, e1] at hinc
  refine Calls.mono hinc ?_
  rintro e w3 ⟨rfl, D3, o3⟩
  have B3 := dc_keep D2 B2 (Nat.le_refl _) o3
  go_wp2_with fail
  have hget := get_calls w.heap.size g m l2 3 (ch 97) w3 D3 (ok_small (by decide))
  rw [show getV l2 (ch 97) = .tuple #[.string (ch 53), .bool true] by kernel_rfl] at hget
  refine Calls.mono hget ?_
  rintro e w3 ⟨rfl, rfl⟩
  go_wp2_with fail
  have hset := set_calls w.heap.size g m l2 3 (ch 99) (ch 120) w3 D3 (ok_small (by decide)) (ok_small (by decide)) (by decide)
  rw [show (getL l2 (ch 99)).isSome = false by kernel_rfl, e2] at hset
  refine Calls.mono hset ?_
  rintro e w4 ⟨rfl, D4, o4⟩
  have B4 := dc_keep D3 B3 (Nat.le_refl _) o4
  go_wp2_with fail
  have hset := set_calls w.heap.size g m l3 4 (ch 99) (ch 121) w4 D4 (ok_small (by decide)) (ok_small (by decide)) (by decide)
  rw [show (getL l3 (ch 99)).isSome = true by kernel_rfl, e3] at hset
  refine Calls.mono hset ?_
  rintro e w5 ⟨rfl, D5, o5⟩
  have B5 := dc_keep D4 B4 (Nat.le_refl _) o5
  go_wp2_with fail
  have hdr := drop_calls w.heap.size g m l4 5 (ch 98) w5 D5 (ok_small (by decide))
  rw [show (getL l4 (ch 98)).isSome = true by kernel_rfl, e4] at hdr
  refine Calls.mono hdr ?_
  rintro e w6 ⟨rfl, D6, o6⟩
  have B6 := dc_keep D5 B5 (Nat.le_refl _) o6
  go_wp2_with fail
  have hdr := drop_calls w.heap.size g m l5 5 (ch 98) w6 D6 (ok_small (by decide))
  rw [show (getL l5 (ch 98)).isSome = false by kernel_rfl, e5] at hdr
  refine Calls.mono hdr ?_
  rintro e w7 ⟨rfl, D7, o7⟩
  have B7 := dc_keep D6 B6 (Nat.le_refl _) o7
  go_wp2_with fail
  have hln := len_calls w.heap.size g m l5 5 w7 D7
  rw [show l5.length = 2 from rfl] at hln
  refine Calls.mono hln ?_
  rintro e w7 ⟨rfl, rfl⟩
  go_wp2_with fail
  refine Calls.mono (fields_calls w.heap.size g m l5 5 w7 D7 (by decide)) ?_
  rintro e w8 ⟨v, rfl, o8, b8⟩
  obtain ⟨A8, c8, rfl, r8⟩ := own_rd o8
  have B8 := below_seq B7 b8
  have b9 : Below w8.heap.size w8 (w8.alloc (.cells #[.string (ch 97), .string (ch 53), .string (ch 99), .string (ch 121)] 52)) := (Below.refl _ _).alloc (Nat.le_refl _) _
  have r9 := rd_four w8 (ch 97) (ch 53) (ch 99) (ch 121) 52
  have hsm := same_true A8 _ _ c8 _ _ l5 _ _ (r8.below b9) r9 (by decide) (by decide) rfl
  have B9 := below_seq B8 b9
  have D9 := D7.below (below_seq b8 b9)
  have K9 := Lib.hid (And.intro B9 D9)
  clear B9 D9 b9 r9
  go_wp2_with fail
  refine Calls.mono hsm ?_
  rintro e w9 ⟨rfl, nd, rfl⟩
  go_wp2_with fail
  obtain ⟨B9, D9⟩ := K9.out
  have bd := below_drawn_' (w := w8.alloc (.cells #[.string (ch 97), .string (ch 53), .string (ch 99), .string (ch 121)] 52)) nd
  have B10 := below_seq B9 bd
  have D10 := D9.below bd
  refine Calls.mono (after_calls w.heap.size g m l5 5 (ch 97) 9 _ D10 (by unfold inR; omega) (by decide)) ?_
  rintro e w11 ⟨v, rfl, o11, b11⟩
  rw [e6] at o11
  obtain ⟨A11, c11, rfl, r11⟩ := own_rd o11
  have B11 := below_seq B10 b11
  have b12 : Below w11.heap.size w11 (w11.alloc (.cells #[.string (ch 99), .string (ch 121)] 52)) := (Below.refl _ _).alloc (Nat.le_refl _) _
  have r12 : RdF (w11.alloc (.cells #[.string (ch 99), .string (ch 121)] 52)) _ _ _ l6 := rd_two w11 _ _ _
  have hsm := same_true A11 _ _ c11 _ _ l6 l6 _ (r11.below b12) r12 (by decide) (by decide) rfl
  have B12 := below_seq B11 b12
  clear b12 r12
  have K12 := Lib.hid B12
  clear B12
  go_wp2_with fail
  refine Calls.mono hsm ?_
  rintro e w12 ⟨rfl, nd2, rfl⟩
  go_wp2_with fail
  go_ret
  exact ⟨rfl, below_seq K12.out (below_drawn_' nd2)⟩
end Go.Proofs.YthgdkmbcibfehaaDoor.DcM
