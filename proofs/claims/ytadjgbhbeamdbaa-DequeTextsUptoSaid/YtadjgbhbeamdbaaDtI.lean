/-
  What awake, the examples, hands back: true. Conditions: none.
-/
import Derived.Test.YtadjgbhbeamdbaaDtC
import Derived.Test.YtadjgbhbeamdbaaDtH
set_option maxRecDepth 100000
set_option linter.unusedSimpArgs false
set_option linter.unusedVariables false
namespace Go.Proofs.Ytadjgbhbeamdbaa.DtI
open Go.RowKit Go.Proofs.Ytadjgbhbeamdbaa.Mem Go.Proofs.Ytadjgbhbeamdbaa.DtA Go.Proofs.Ytadjgbhbeamdbaa.DtB Go.Proofs.Ytadjgbhbeamdbaa.DtC Go.Proofs.Ytadjgbhbeamdbaa.DtD Go.Proofs.Ytadjgbhbeamdbaa.DtF Go.Proofs.Ytadjgbhbeamdbaa.DtG Go.Proofs.Ytadjgbhbeamdbaa.DtH

/-- A literal reads as its list. -/
theorem rd_lit (w : World) (cs : Array Value) (l : List ByteArray) (n : Nat) (hc : cs.toList = ints l) (hn : cs.size = n) (hb : n ≤ maxLen) : RdI (w.alloc (.cells cs 9)) (some ⟨w.heap.size, 0, none⟩) n n l := by
  have := Rd.of_own (World.ownsRow_lit (base := 0) (e := 9) (size := 1) w cs n (Nat.zero_le _) hb (by omega))
  rwa [hc] at this

theorem dq_below {w w' : World} {B g : Nat} {v : Value} {l : List ByteArray} (h : Dq w B g v l) (hb : Below w.heap.size w w') : Dq w' B g v l := by
  have hg := h.lt
  obtain ⟨xs, f, a, b, c, d⟩ := h
  have hlt := c.lt
  exact Dq.only ⟨xs, f, a, b, c, d⟩ (Only.of_below hb) (by omega) (fun k hk hk2 => by have := (hlt k hk).2; omega)
theorem dq_ge {w : World} {B g : Nat} {v : Value} {l : List ByteArray} (h : Dq w B g v l) : B ≤ g := by obtain ⟨xs, f, a, b, c⟩ := h; exact b
theorem below_on {w w1 w' : World} {S : Nat} (h : Below w.heap.size w w1) (k : Below S w1 w') (hS : w.heap.size ≤ S) : Below w.heap.size w w' :=
  (Only.of_below k).after h (Nat.le_refl _) (fun b hb => Nat.le_trans hS hb)
theorem below_drawn {w w' : World} {B : Nat} (h : Below B w w') (n : Nat) : Below B w (w'.drewN n) := ⟨h.os, h.tape, h.output, h.size, h.block⟩
theorem below_new {w w1 w' : World} (h : Below w.heap.size w w1) (k : Below w1.heap.size w1 w') : Below w.heap.size w w' := below_on h k h.size





end Go.Proofs.Ytadjgbhbeamdbaa.DtI
