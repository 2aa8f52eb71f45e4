/-
  The walk of DequeEnds, for lists of at most 1048576 texts. Conditions: as stated.
-/
import Derived.Test.YtadjgbhbeamdbaaDtI
import Derived.Test.YtadjgbhbeamdbaaDtQ
set_option maxRecDepth 100000
set_option linter.unusedSimpArgs false
set_option linter.unusedVariables false
namespace Go.Proofs.Ytadjgbhbeamdbaa.DtR
open Go.RowKit Go.Proofs.Ytadjgbhbeamdbaa.Mem Go.Proofs.Ytadjgbhbeamdbaa.DtA Go.Proofs.Ytadjgbhbeamdbaa.DtB Go.Proofs.Ytadjgbhbeamdbaa.DtD Go.Proofs.Ytadjgbhbeamdbaa.DtF Go.Proofs.Ytadjgbhbeamdbaa.DtI Go.Proofs.Ytadjgbhbeamdbaa.DtO Go.Proofs.Ytadjgbhbeamdbaa.DtP Go.Proofs.Ytadjgbhbeamdbaa.DtQ

set_option maxHeartbeats 1000000 in
theorem ofN_calls (A : Option Addr) (n c : Nat) (l : List ByteArray) (w : World) (hr : RdI w A n c l) (hn : n ≤ 8796093022208) :
    Calls Try.prog 4 #[.slice A n c] w fun e w' => ∃ g v, e = .returned (.pointer (some ⟨g, 0, none⟩)) ∧ Dqn w' w.heap.size g v l l.length ∧ Below w.heap.size w w' := by
  have hl : Hid (l.length = n) := by have := hr.len; rw [ints_len] at this; simpa [Hid] using this
  go_enter Try.func4, Try.ntmps4
  go_wp2_with fail
  refine (clone_calls A n c l _ hr (by omega)).mono ?_
  rintro e w1 ⟨v', rfl, ho, hb⟩
  obtain ⟨A', c', rfl⟩ := own_form ho
  go_wp2_with fail
  go_ret
  refine ⟨_, _, rfl, ⟨l, 0, ⟨heap_alloc_new w1 _, hb.size, ho.alloc _, Nat.zero_le _, ?_⟩, rfl, Nat.le_refl _⟩, hb.alloc hb.size _⟩
  intro h
  have := ho.lt _ h
  omega

/-- What a walk carries: the deque at g holds l in a store of N at most; what was there at W is as it was. -/
structure Sd (W w : World) (g : Nat) (v : Value) (l : List ByteArray) (N : Nat) : Prop where
  dq : Dqn w W.heap.size g v l N
  bel : Below W.heap.size W w
section
variable {W w w' : World} {g N : Nat} {v : Value} {l : List ByteArray}
theorem Sd.below (h : Sd W w g v l N) (hb : Below w.heap.size w w') : Sd W w' g v l N := ⟨h.dq.below hb, below_new h.bel hb⟩
theorem Sd.drawn (h : Sd W w g v l N) (m : Nat) : Sd W (w.drewN m) g v l N := ⟨h.dq.drawn m, below_drawn h.bel m⟩
theorem Sd.turns {N' : Nat} {l' : List ByteArray} (h : Sd W w g v l N) (ht : Turns W.heap.size g v l' N' w w') : ∃ v', Sd W w' g v' l' N' := by
  obtain ⟨v', hd, ho, _⟩ := ht
  exact ⟨v', hd, ho.after h.bel (Nat.le_refl _) (fun b e => by
    rcases e with rfl | e
    · exact h.dq.ge
    · exact (h.dq.olt b e).1)⟩
theorem Sd.size (h : Sd W w g v l N) : W.heap.size ≤ w.heap.size := h.bel.size
/-- A slice that was there at W lies apart. -/
theorem Sd.sep {A : Option Addr} {n c : Nat} {k : List ByteArray} (h : Sd W w g v l N) (hr : RdI W A n c k) (hn : n ≠ 0) : ∀ ad, A = some ad → ad.block ≠ g ∧ v.ownBlock ≠ some ad.block := fun ad e => by
  obtain ⟨ad', e', hlt⟩ := hr.lt (by intro e; have := hr.len; rw [e] at this; simp at this; omega)
  rw [e] at e'; injection e' with e'; subst e'
  exact ⟨fun e => by have := h.dq.ge; omega, fun e => by have := (h.dq.olt _ e).1; omega⟩
end



end Go.Proofs.Ytadjgbhbeamdbaa.DtR
