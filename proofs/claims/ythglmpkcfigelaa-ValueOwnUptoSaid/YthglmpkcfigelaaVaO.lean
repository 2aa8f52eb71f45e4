/-
  Empty, and the kinds' names. Conditions: as stated.
-/
import Derived.Test.YthglmpkcfigelaaVaN
set_option maxRecDepth 100000
set_option linter.unusedSimpArgs false
set_option linter.unusedVariables false
namespace Go.Proofs.Ythglmpkcfigelaa.VaO
open Go.RowKit Go.Proofs.Ythglmpkcfigelaa.Mem Go.Proofs.Ythglmpkcfigelaa.VaA Go.Proofs.Ythglmpkcfigelaa.VaB Go.Proofs.Ythglmpkcfigelaa.VaC Go.Proofs.Ythglmpkcfigelaa.VaD Go.Proofs.Ythglmpkcfigelaa.VaE Go.Proofs.Ythglmpkcfigelaa.VaF Go.Proofs.Ythglmpkcfigelaa.VaG Go.Proofs.Ythglmpkcfigelaa.VaH Go.Proofs.Ythglmpkcfigelaa.VaI Go.Proofs.Ythglmpkcfigelaa.VaJ Go.Proofs.Ythglmpkcfigelaa.VaK Go.Proofs.Ythglmpkcfigelaa.VaL
attribute [local go_sem] m_text_empty m_list_empty m_hash_empty m_set_empty m_ranked_empty

set_option maxHeartbeats 1000000 in
theorem emptyP_calls (x : VV) (w : World) :
    Calls Try.prog 23 #[x.val] w fun e w' => e = .returned (.bool (emptyD x)) ∧ Below w.heap.size w w' := by
  have hv : x.val = .agg #[.int .i64 x.kind, .string x.text, .slice x.LA x.ln x.lc, .slice x.FA x.fn x.fc, .slice x.KA x.kn x.kc] := rfl
  have hof := fun w' => of_calls x w'
  rw [hv] at hof ⊢
  unfold VV.cells at hof
  go_enter Try.func23, Try.ntmps23
  go_wp2_with fail
  refine (hof _).mono ?_
  rintro e w1 ⟨rfl, rfl⟩
  by_cases h1 : x.kind = 1
  · have e1 : heldV x = .iface 79 (.string x.text) := by unfold heldV; simp [h1]
    have e2 : isK x = true := by unfold isK; simp [h1]
    rw [e1, e2]
    clear e1 e2
    go_wp2_with (go_at_call 69; go_enter Try.func69, Try.ntmps69)
    go_ret
    exact ⟨by unfold emptyD isK emptyV; simp [h1, zero_int], (((Below.refl _ w).alloc (Nat.le_refl _) _).alloc (by simp) _)⟩
  by_cases h2 : x.kind = 2
  · have e1 : heldV x = .iface 80 (.slice x.LA x.ln x.lc) := by unfold heldV; simp [h2]
    have e2 : isK x = true := by unfold isK; simp [h2]
    rw [e1, e2]
    clear e1 e2
    go_wp2_with (go_at_call 76; go_enter Try.func76, Try.ntmps76)
    go_ret
    exact ⟨by unfold emptyD isK emptyV; simp [h2, zero_int], (((Below.refl _ w).alloc (Nat.le_refl _) _).alloc (by simp) _)⟩
  by_cases h3 : x.kind = 3
  · have e1 : heldV x = .iface 81 (.slice x.FA x.fn x.fc) := by unfold heldV; simp [h3]
    have e2 : isK x = true := by unfold isK; simp [h3]
    rw [e1, e2]
    clear e1 e2
    go_wp2_with (go_at_call 82; go_enter Try.func82, Try.ntmps82)
    go_ret
    exact ⟨by unfold emptyD isK emptyV; simp [h3, zero_int], (((Below.refl _ w).alloc (Nat.le_refl _) _).alloc (by simp) _)⟩
  by_cases h4 : x.kind = 4
  · have e1 : heldV x = .iface 82 (.slice x.LA x.ln x.lc) := by unfold heldV; simp [h4]
    have e2 : isK x = true := by unfold isK; simp [h4]
    rw [e1, e2]
    clear e1 e2
    go_wp2_with (go_at_call 85; go_enter Try.func85, Try.ntmps85)
    go_ret
    exact ⟨by unfold emptyD isK emptyV; simp [h4, zero_int], (((Below.refl _ w).alloc (Nat.le_refl _) _).alloc (by simp) _)⟩
  by_cases h5 : x.kind = 5
  · have e1 : heldV x = .iface 83 (.slice x.KA x.kn x.kc) := by unfold heldV; simp [h5]
    have e2 : isK x = true := by unfold isK; simp [h5]
    rw [e1, e2]
    clear e1 e2
    go_wp2_with (go_at_call 89; go_enter Try.func89, Try.ntmps89)
    go_ret
    exact ⟨by unfold emptyD isK emptyV; simp [h5, zero_int], (((Below.refl _ w).alloc (Nat.le_refl _) _).alloc (by simp) _)⟩
  have e1 : heldV x = .nilIface := by unfold heldV; simp [h1, h2, h3, h4, h5]
  have e2 : isK x = false := by unfold isK; simp [h1, h2, h3, h4, h5]
  rw [e1, e2]
  go_wp2_with fail
  go_ret
  exact ⟨by unfold emptyD; rw [e2]; rfl, (((Below.refl _ w).alloc (Nat.le_refl _) _).alloc (by simp) _)⟩

/-- A kind's name. -/
def nameB (k : Int) : ByteArray := if k = 0 then ⟨#[110, 111, 110, 101]⟩ else if k = 1 then ⟨#[115, 116, 114, 105, 110, 103]⟩ else if k = 2 then ⟨#[108, 105, 115, 116]⟩ else if k = 3 then ⟨#[104, 97, 115, 104]⟩ else if k = 4 then ⟨#[115, 101, 116]⟩ else if k = 5 then ⟨#[122, 115, 101, 116]⟩ else ⟨#[]⟩
set_option maxHeartbeats 1000000 in
theorem nameP_calls (k : Int) (w : World) : Calls Try.prog 26 #[.int .i64 k] w fun e w' => e = .returned (.string (nameB k)) ∧ w' = w := by
  go_enter Try.func26, Try.ntmps26
  by_cases h0 : k = 0
  · subst h0
    go_wp2_with fail
    go_ret
    exact ⟨rfl, rfl⟩
  by_cases h1 : k = 1
  · subst h1
    go_wp2_with fail
    go_ret
    exact ⟨rfl, rfl⟩
  by_cases h2 : k = 2
  · subst h2
    go_wp2_with fail
    go_ret
    exact ⟨rfl, rfl⟩
  by_cases h3 : k = 3
  · subst h3
    go_wp2_with fail
    go_ret
    exact ⟨rfl, rfl⟩
  by_cases h4 : k = 4
  · subst h4
    go_wp2_with fail
    go_ret
    exact ⟨rfl, rfl⟩
  by_cases h5 : k = 5
  · subst h5
    go_wp2_with fail
    go_ret
    exact ⟨rfl, rfl⟩
  go_wp2_with fail
  go_ret
  exact ⟨by rw [show nameB k = ⟨#[]⟩ by unfold nameB; simp [h0, h1, h2, h3, h4, h5]]; rfl, rfl⟩
set_option maxHeartbeats 1000000 in
theorem nameR_calls (k : Int) (w : World) : Calls Try.prog 27 #[.int .i64 k] w fun e w' => e = .returned (.string (nameB k)) ∧ Below w.heap.size w w' := by
  go_enter Try.func27, Try.ntmps27
  by_cases h0 : k = 0
  · subst h0
    go_wp2_with fail
    go_ret
    exact ⟨rfl, (Below.refl _ w).alloc (Nat.le_refl _) _⟩
  by_cases h1 : k = 1
  · subst h1
    go_wp2_with fail
    go_ret
    exact ⟨rfl, (Below.refl _ w).alloc (Nat.le_refl _) _⟩
  by_cases h2 : k = 2
  · subst h2
    go_wp2_with fail
    go_ret
    exact ⟨rfl, (Below.refl _ w).alloc (Nat.le_refl _) _⟩
  by_cases h3 : k = 3
  · subst h3
    go_wp2_with fail
    go_ret
    exact ⟨rfl, (Below.refl _ w).alloc (Nat.le_refl _) _⟩
  by_cases h4 : k = 4
  · subst h4
    go_wp2_with fail
    go_ret
    exact ⟨rfl, (Below.refl _ w).alloc (Nat.le_refl _) _⟩
  by_cases h5 : k = 5
  · subst h5
    go_wp2_with fail
    go_ret
    exact ⟨rfl, (Below.refl _ w).alloc (Nat.le_refl _) _⟩
  by_cases hlo : k < 0
  · go_wp2_with fail
    go_ret
    exact ⟨by rw [show nameB k = ⟨#[]⟩ by unfold nameB; simp [h0, h1, h2, h3, h4, h5]]; rfl, (Below.refl _ w).alloc (Nat.le_refl _) _⟩
  have hhi : 6 ≤ k := by omega
  have HH := Lib.hid (And.intro h0 (And.intro h1 (And.intro h2 (And.intro h3 (And.intro h4 h5)))))
  clear h0 h1 h2 h3 h4 h5
  go_wp2_with fail
  go_ret
  exact ⟨by rw [show nameB k = ⟨#[]⟩ by obtain ⟨h0, h1, h2, h3, h4, h5⟩ := HH.out; unfold nameB; simp [h0, h1, h2, h3, h4, h5]]; rfl, (Below.refl _ w).alloc (Nat.le_refl _) _⟩
end Go.Proofs.Ythglmpkcfigelaa.VaO
