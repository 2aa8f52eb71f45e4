/-
  What a Deque's Trim leaves. Conditions: as stated.
-/
import Derived.Test.YtgbgdgncdanblaaDqI
set_option maxRecDepth 100000
set_option linter.unusedSimpArgs false
set_option linter.unusedVariables false
namespace Go.Proofs.Ytgbgdgncdanblaa.DqJ
open Go.RowKit Go.Proofs.Ytgbgdgncdanblaa.Mem Go.Proofs.Ytgbgdgncdanblaa.DqA Go.Proofs.Ytgbgdgncdanblaa.DqB Go.Proofs.Ytgbgdgncdanblaa.DqC Go.Proofs.Ytgbgdgncdanblaa.DqD Go.Proofs.Ytgbgdgncdanblaa.DqF Go.Proofs.Ytgbgdgncdanblaa.DqI

/-- A deque holds l' now, in a store of its own. -/
def Left (B g : Nat) (l' : List Int) (w w' : World) : Prop := ∃ v', Dq w' B g v' l' ∧ Only (fun k => k = g) w w' ∧ (∀ k, v'.ownBlock = some k → w.heap.size ≤ k) ∧ Fresh w' B g v' l'

theorem piece_len (l : List Int) (f t : Int) : (pieceL l f t).length ≤ l.length := by unfold pieceL; simp; omega

set_option maxHeartbeats 400000 in
theorem trim_calls (B g : Nat) (v : Value) (l : List Int) (f t : Int) (w : World) (hd : Dq w B g v l)
    (f1 : -9223372036854775808 ≤ f) (f2 : f ≤ 9223372036854775807) (t1 : -9223372036854775808 ≤ t) (t2 : t ≤ 9223372036854775807) :
    Calls Try.prog 21 #[.pointer (some ⟨g, 0, none⟩), .int .i64 f, .int .i64 t] w fun e w' => e = .returned (.tuple #[]) ∧ Left B g (pieceL l f t) w w' := by
  have hbd := dq_bound hd
  have hpl := piece_len l f t
  generalize hL : pieceL l f t = L at hpl
  have HL := Lib.hid hL
  clear hL
  go_enter Try.func21, Try.ntmps21
  go_wp2_with fail
  refine (slice_calls B g v l f t _ hd f1 f2 t1 t2).mono ?_
  rintro e w1 ⟨v1, rfl, ho, hb⟩
  rw [HL.out] at ho
  obtain ⟨A1, c1, rfl⟩ := own_form ho
  obtain ⟨c0, ⟨f0, cc1⟩, fz0, fz1⟩ := dq_cells hd hb
  go_wp2_with fail
  go_end0
  exact ⟨rfl, _, dq_new hd hb ho (by omega) rfl⟩
end Go.Proofs.Ytgbgdgncdanblaa.DqJ
