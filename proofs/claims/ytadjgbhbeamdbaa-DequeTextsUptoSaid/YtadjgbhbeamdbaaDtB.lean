/-
  What the small functions over lists of texts hand back: Len, List, Of, Same, Turned, Joined. Conditions: as stated.
-/
import Derived.Test.YtadjgbhbeamdbaaDtA
set_option maxRecDepth 100000
namespace Go.Proofs.Ytadjgbhbeamdbaa.DtB
open Go.RowKit Go.Proofs.Ytadjgbhbeamdbaa.Mem Go.Proofs.Ytadjgbhbeamdbaa.DtA

set_option maxHeartbeats 1000000 in
theorem len_calls (B g : Nat) (v : Value) (l : List ByteArray) (w : World) (hd : Dq w B g v l) :
    Calls Try.prog 35 #[.pointer (some ⟨g, 0, none⟩)] w fun e w' => e = .returned (.int .i64 l.length) ∧ ∃ nd, w' = w.drewN nd := by
  go_enter Try.func35, Try.ntmps35
  go_wp2_with fail
  refine (all_calls B g v l w hd).mono ?_
  rintro e w1 ⟨A, n, c, nd, rfl, hr, hn, hA, rfl⟩
  obtain rfl := hn
  go_wp2_with fail
  go_ret
  exact ⟨rfl, nd, rfl⟩

theorem dq_bound {B g : Nat} {v : Value} {l : List ByteArray} {w : World} (hd : Dq w B g v l) : l.length ≤ 8796093022208 := by
  obtain ⟨xs, f, _, _, _, _, rfl, _, h⟩ := hd
  simp; omega

/-- A new list of texts. -/
def NewI (w : World) (l : List ByteArray) (e : Ending) (w' : World) : Prop := ∃ v, e = .returned v ∧ OwnI w' w.heap.size v l ∧ Below w.heap.size w w'

set_option maxHeartbeats 1000000 in
theorem list_calls (B g : Nat) (v : Value) (l : List ByteArray) (w : World) (hd : Dq w B g v l) :
    Calls Try.prog 25 #[.pointer (some ⟨g, 0, none⟩)] w (NewI w l) := by
  have hbd := dq_bound hd
  go_enter Try.func25, Try.ntmps25
  go_wp2_with fail
  refine (all_calls B g v l w hd).mono ?_
  rintro e w1 ⟨A, n, c, nd, rfl, hr, hn, hA, rfl⟩
  obtain rfl := hn
  go_wp2_with fail
  refine (clone_calls A _ c l _ (hr.drawn nd) (by omega)).mono ?_
  rintro e w1 ⟨v', rfl, ho, hb⟩
  go_wp2_with fail
  go_ret
  exact ⟨_, rfl, ho, ⟨hb.os, hb.tape, hb.output, hb.size, hb.block⟩⟩

def NewDq (w : World) (l : List ByteArray) (e : Ending) (w' : World) : Prop := ∃ g v, e = .returned (.pointer (some ⟨g, 0, none⟩)) ∧ Dq w' w.heap.size g v l ∧ Below w.heap.size w w'

set_option maxHeartbeats 1000000 in
theorem of_calls (A : Option Addr) (n c : Nat) (l : List ByteArray) (w : World) (hr : RdI w A n c l) (hn : n ≤ 8796093022208) :
    Calls Try.prog 4 #[.slice A n c] w (NewDq w l) := by
  have hl : Hid (l.length = n) := by have := hr.len; rw [ints_len] at this; simpa [Hid] using this
  go_enter Try.func4, Try.ntmps4
  go_wp2_with fail
  refine (clone_calls A n c l _ hr (by omega)).mono ?_
  rintro e w1 ⟨v', rfl, ho, hb⟩
  obtain ⟨A', c', rfl⟩ := own_form ho
  go_wp2_with fail
  go_ret
  refine ⟨_, _, rfl, ⟨l, 0, heap_alloc_new w1 _, hb.size, ho.alloc _, Nat.zero_le _, rfl, ?_, by rw [hl.out]; exact hn⟩, hb.alloc hb.size _⟩
  intro h
  have := ho.lt _ h
  omega




end Go.Proofs.Ytadjgbhbeamdbaa.DtB
