/-
  The reader's numbers. Conditions: as stated.
-/
import Derived.Test.YthglmpkcfigelaaVaP
import Derived.Test.YthglmpkcfigelaaVaE
set_option maxRecDepth 100000
set_option linter.unusedSimpArgs false
set_option linter.unusedVariables false
namespace Go.Proofs.Ythglmpkcfigelaa.VaQ
open Go.RowKit Go.Proofs.Ythglmpkcfigelaa.Mem Go.Proofs.Ythglmpkcfigelaa.VaA Go.Proofs.Ythglmpkcfigelaa.VaP

/-- A reader at block g: its text, how far it is, whether it has failed. -/
def Rdr (T : TypeId) (w : World) (g : Nat) (s : ByteArray) (k : Nat) (bad : Bool) : Prop := w.heap[g]? = some (.cells #[.string s, .int .i64 k, .bool bad] T (0, 0))
section
variable {T : TypeId} {w : World} {g k : Nat} {s : ByteArray} {bad : Bool}
theorem Rdr.c0 (h : Rdr T w g s k bad) : w.cell? ⟨g, 0, none⟩ = some (.string s) := by simp [World.cell?, show w.heap[g]? = _ from h]
theorem Rdr.c1 (h : Rdr T w g s k bad) : w.cell? ⟨g, 1, none⟩ = some (.int .i64 k) := by simp [World.cell?, show w.heap[g]? = _ from h]
theorem Rdr.c2 (h : Rdr T w g s k bad) : w.cell? ⟨g, 2, none⟩ = some (.bool bad) := by simp [World.cell?, show w.heap[g]? = _ from h]
theorem Rdr.f1 (h : Rdr T w g s k bad) : w.frozen? ⟨g, 1, none⟩ = false := by simp [World.frozen?, show w.heap[g]? = _ from h]
theorem Rdr.f2 (h : Rdr T w g s k bad) : w.frozen? ⟨g, 2, none⟩ = false := by simp [World.frozen?, show w.heap[g]? = _ from h]
theorem Rdr.bad_ (h : Rdr T w g s k bad) : Rdr T (w.setCell ⟨g, 2, none⟩ (.bool true)) g s k true := by
  unfold Rdr at h ⊢
  simp [World.setCell, Array.getElem?_modify, h]
theorem Rdr.on (h : Rdr T w g s k bad) (j : Nat) : Rdr T (w.setCell ⟨g, 1, none⟩ (.int .i64 j)) g s j bad := by
  unfold Rdr at h ⊢
  simp [World.setCell, Array.getElem?_modify, h]
theorem Rdr.drawn (h : Rdr T w g s k bad) (n : Nat) : Rdr T (w.drewN n) g s k bad := h
end

theorem unfix_q (s : ByteArray) (h1 : 1 ≤ s.size) (h8 : s.size ≤ 8) (w : World) : Calls Try.prog 50 #[.string s] w fun e w' => e = .returned (.tuple #[.int .u64 (unle s.data.toList), .int .i64 0]) ∧ ∃ n, w' = w.drewN n :=
  (unfix_calls s w h1 h8).mono (fun e w' h => ⟨h.1, 0, h.2⟩)
/-- What a number taken up leaves and hands back. -/
def NumPost (T : TypeId) (g : Nat) (s : ByteArray) (k W : Nat) (bad : Bool) (w : World) (e : Ending) (w' : World) : Prop :=
  ((bad = true ∨ s.size - k < W) → e = .returned (.int .u64 0) ∧ Rdr T w' g s k true) ∧ (¬ (bad = true ∨ s.size - k < W) → e = .returned (.int .u64 (unle ((s.data.toList.drop k).take W))) ∧ Rdr T w' g s (k + W) false) ∧ Only (fun b => b = g) w w'

set_option maxHeartbeats 1000000 in
theorem number_calls (g : Nat) (s : ByteArray) (k W : Nat) (bad : Bool) (w : World) (h : Rdr 64 w g s k bad) (hk : k ≤ s.size) (hs : s.size ≤ 1000000000000) (h1 : 1 ≤ W) (h8 : W ≤ 8) :
    Calls Try.prog 33 #[.pointer (some ⟨g, 0, none⟩), .int .i64 W] w (NumPost 64 g s k W bad w) := by
  have c0 := h.c0
  have c1 := h.c1
  have c2 := h.c2
  have f1 := h.f1
  have f2 := h.f2
  have HR := Lib.hid h
  clear h
  cases bad
  · by_cases hlt : s.size - k < W
    · have hq : decide ((s.size : Int) - (k : Int) < (W : Int)) = true := by simp; omega
      go_enter Try.func33, Try.ntmps33
      go_wp2_with fail
      go_quiet (fail)
      go_wp2_with fail
      go_ret
      exact ⟨fun _ => ⟨rfl, (HR.out.drawn _).bad_⟩, fun h => absurd (.inr hlt) h, ((Only.refl (fun b => b = g) w).drawn _).put (p := ⟨g, 2, none⟩) (.inl rfl) _⟩
    · have hq : decide ((s.size : Int) - (k : Int) < (W : Int)) = false := by simp; omega
      have hsz : (s.extract k (k + W)).size = W := by rw [ByteArray.size_extract]; omega
      have hun := fun w' => unfix_q (s.extract k (k + W)) (by omega) (by omega) w'
      have hwp : IntKind.i64.wrap ((k : Int) + (W : Int)) = ((k + W : Nat) : Int) := by rw [Go.IntWalk.i64_in _ (by omega)]; simp
      have hkw : (k : Int) + (W : Int) ≤ (s.size : Int) := by omega
      have hkt : ((k : Int) + (W : Int)).toNat = k + W := by omega
      have hk0 : (0 : Int) ≤ (k : Int) + (W : Int) := by omega
      have hkk : (k : Int) ≤ (k : Int) + (W : Int) := by omega
      go_enter Try.func33, Try.ntmps33
      go_wp2_with fail
      go_quiet (fail)
      go_wp2_with fail
      go_quiet (first | (refine (hun _).mono ?_; rintro e w9 ⟨rfl, n9, rfl⟩; exact ⟨rfl, _, by rw [VaE.drew2, Nat.add_assoc]⟩))
      go_wp2_with fail
      go_ret
      refine ⟨fun h => absurd h (by simp; omega), fun _ => ⟨rfl, ?_⟩, ((Only.refl (fun b => b = g) w).drawn _).put (p := ⟨g, 1, none⟩) (.inl rfl) _⟩
      have h := (HR.out.drawn (0 + 0)).on (k + W)
      rw [show ((k + W : Nat) : Int) = (k : Int) + (W : Int) by simp] at h
      exact h
  · go_enter Try.func33, Try.ntmps33
    go_wp2_with fail
    go_quiet (fail)
    go_wp2_with fail
    go_ret
    exact ⟨fun _ => ⟨rfl, (HR.out.drawn _).bad_⟩, fun h => absurd (.inl rfl) h, ((Only.refl (fun b => b = g) w).drawn _).put (p := ⟨g, 2, none⟩) (.inl rfl) _⟩
theorem unfixR_q (s : ByteArray) (h1 : 1 ≤ s.size) (h8 : s.size ≤ 8) (w : World) : Calls Try.prog 51 #[.string s] w fun e w' => e = .returned (.tuple #[.int .u64 (unle s.data.toList), .int .i64 0]) ∧ ∃ n, w' = w.drewN n :=
  (unfixR_calls s w h1 h8).mono (fun e w' h => ⟨h.1, 0, h.2⟩)
set_option maxHeartbeats 1000000 in
theorem numberR_calls (g : Nat) (s : ByteArray) (k W : Nat) (bad : Bool) (w : World) (h : Rdr 69 w g s k bad) (hk : k ≤ s.size) (hs : s.size ≤ 1000000000000) (h1 : 1 ≤ W) (h8 : W ≤ 8) :
    Calls Try.prog 35 #[.pointer (some ⟨g, 0, none⟩), .int .i64 W] w (NumPost 69 g s k W bad w) := by
  have c0 := h.c0
  have c1 := h.c1
  have c2 := h.c2
  have f1 := h.f1
  have f2 := h.f2
  have HR := Lib.hid h
  clear h
  cases bad
  · by_cases hlt : s.size - k < W
    · have hq : decide ((s.size : Int) - (k : Int) < (W : Int)) = true := by simp; omega
      go_enter Try.func35, Try.ntmps35
      go_wp2_with fail
      go_quiet (fail)
      go_wp2_with fail
      go_ret
      exact ⟨fun _ => ⟨rfl, (HR.out.drawn _).bad_⟩, fun h => absurd (.inr hlt) h, ((Only.refl (fun b => b = g) w).drawn _).put (p := ⟨g, 2, none⟩) (.inl rfl) _⟩
    · have hq : decide ((s.size : Int) - (k : Int) < (W : Int)) = false := by simp; omega
      have hsz : (s.extract k (k + W)).size = W := by rw [ByteArray.size_extract]; omega
      have hun := fun w' => unfixR_q (s.extract k (k + W)) (by omega) (by omega) w'
      have hwp : IntKind.i64.wrap ((k : Int) + (W : Int)) = ((k + W : Nat) : Int) := by rw [Go.IntWalk.i64_in _ (by omega)]; simp
      have hkw : (k : Int) + (W : Int) ≤ (s.size : Int) := by omega
      have hkt : ((k : Int) + (W : Int)).toNat = k + W := by omega
      have hk0 : (0 : Int) ≤ (k : Int) + (W : Int) := by omega
      have hkk : (k : Int) ≤ (k : Int) + (W : Int) := by omega
      go_enter Try.func35, Try.ntmps35
      go_wp2_with fail
      go_quiet (fail)
      go_wp2_with fail
      go_quiet (first | (refine (hun _).mono ?_; rintro e w9 ⟨rfl, n9, rfl⟩; exact ⟨rfl, _, by rw [VaE.drew2, Nat.add_assoc]⟩))
      go_wp2_with fail
      go_ret
      refine ⟨fun h => absurd h (by simp; omega), fun _ => ⟨rfl, ?_⟩, ((Only.refl (fun b => b = g) w).drawn _).put (p := ⟨g, 1, none⟩) (.inl rfl) _⟩
      have h := (HR.out.drawn (0 + 0)).on (k + W)
      rw [show ((k + W : Nat) : Int) = (k : Int) + (W : Int) by simp] at h
      exact h
  · go_enter Try.func35, Try.ntmps35
    go_wp2_with fail
    go_quiet (fail)
    go_wp2_with fail
    go_ret
    exact ⟨fun _ => ⟨rfl, (HR.out.drawn _).bad_⟩, fun h => absurd (.inl rfl) h, ((Only.refl (fun b => b = g) w).drawn _).put (p := ⟨g, 2, none⟩) (.inl rfl) _⟩
/-- What a text taken up leaves and hands back. -/
def TextPost (T : TypeId) (g : Nat) (s : ByteArray) (k : Nat) (bad : Bool) (w : World) (e : Ending) (w' : World) : Prop :=
  ∃ n k1 bad1, (if bad = true ∨ s.size - k < 4 then n = 0 ∧ k1 = k ∧ bad1 = true else n = unle ((s.data.toList.drop k).take 4) ∧ k1 = k + 4 ∧ bad1 = false) ∧
    ((bad1 = true ∨ s.size - k1 < n) → e = .returned (.string ⟨#[]⟩) ∧ Rdr T w' g s k1 true) ∧ (¬ (bad1 = true ∨ s.size - k1 < n) → e = .returned (.string (s.extract k1 (k1 + n))) ∧ Rdr T w' g s (k1 + n) false) ∧ Only (fun b => b = g) w w'
end Go.Proofs.Ythglmpkcfigelaa.VaQ
