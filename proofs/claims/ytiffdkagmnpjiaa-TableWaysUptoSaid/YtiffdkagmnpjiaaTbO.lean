/-
  table.Check. Conditions: as stated.
-/
import Derived.Test.YtiffdkagmnpjiaaTbN
set_option maxRecDepth 100000
set_option linter.unusedSimpArgs false
set_option linter.unusedVariables false
namespace Go.Proofs.Ytiffdkagmnpjiaa.TbO
open Go.RowKit Go.Proofs.Ytiffdkagmnpjiaa.Mem Go.Proofs.Ytiffdkagmnpjiaa.TbA Go.Proofs.Ytiffdkagmnpjiaa.TbB Go.Proofs.Ytiffdkagmnpjiaa.Bytes Go.Proofs.Ytiffdkagmnpjiaa.TbI Go.Proofs.Ytiffdkagmnpjiaa.TbL Go.Proofs.Ytiffdkagmnpjiaa.TbN


theorem rowsL_names : (rowsL.all fun r => decide (r.name.size ≤ 32)) = true := by kernel_rfl
theorem rowsL_ars : (rowsL.all fun r => decide (-100 ≤ r.ar ∧ r.ar ≤ 100)) = true := by kernel_rfl
theorem find_mem {s : ByteArray} {r : Sp} (h : findD s = some r) : r.name.size ≤ 32 ∧ -100 ≤ r.ar ∧ r.ar ≤ 100 := by
  have hm := List.mem_of_find?_eq_some h
  exact ⟨by simpa using List.all_eq_true.1 rowsL_names r hm, by simpa using List.all_eq_true.1 rowsL_ars r hm⟩
set_option maxHeartbeats 2000000 in
theorem check_known (A : Option Addr) (n c : Nat) (s : ByteArray) (l : List ByteArray) (x : Sp) (w : World) (hr : RdS w A n c (s :: l)) (hs : s.size ≤ 281474976710656) (hf : findD s = some x) :
    Calls Try.prog 15 #[.slice A n c] w fun e w' => e = .returned (.string (checkD (s :: l))) ∧ Below w.heap.size w w' := by
  obtain ⟨p, rfl, x0⟩ := hr.get 0 (.string s) rfl
  rw [show p.add 0 = p from rfl] at x0
  have hn : n = l.length + 1 := by have := hr.len; simp [strs] at this; omega
  have hbig := hr.big
  have hcap := hr.cap
  have hbig' : c ≤ 9223372036854775807 := hbig
  obtain ⟨hm1, hm2, hm3⟩ := find_mem hf
  have hc : checkD (s :: l) = if bad (l.length + 1) x.ar then ariP ++ x.name else ⟨#[]⟩ := by unfold checkD; simp only [hf]; rfl
  have Hc := Lib.hid hc
  clear hc hr
  obtain ⟨xn, xa, xw, xc, xf, xl, xs⟩ := x
  simp only at hm1 hm2 hm3 Hc
  have hfind : Hid (∀ W, Calls Try.prog 8 #[.string s] W fun e w' => e = .returned (.tuple #[.agg #[.string xn, .int .i64 xa, .bool xw, .bool xc, .int .i64 xf, .int .i64 xl, .int .i64 xs], .bool true]) ∧ Below W.heap.size W w') := fun W => by have := find_calls s W hs; rw [hf] at this; exact this
  go_enter Try.func15, Try.ntmps15
  go_wp2_with fail
  refine (hfind.out _).mono ?_
  rintro e w1 ⟨rfl, b1⟩
  clear hfind
  go_wp2_with fail
  all_goals (
    go_ret
    refine ⟨?_, b1.alloc b1.size _⟩
    rw [Hc.out]
    first
      | (rw [if_pos (by simp [bad]; omega)]; rfl)
      | (rw [if_neg (by simp [bad]; omega)]; rfl))
end Go.Proofs.Ytiffdkagmnpjiaa.TbO
